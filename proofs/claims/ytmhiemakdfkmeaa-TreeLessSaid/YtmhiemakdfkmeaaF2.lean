/- Printed by a program: functions of the program as plain functions, and that the code computes them. -/
import Derived.Test.YtmhiemakdfkmeaaF1
set_option linter.all false
set_option autoImplicit true
set_option relaxedAutoImplicit true
open Go Go.Proofs
namespace Go.Sh
set_option maxRecDepth 100000
def Z167 (x0 : Value) : SV := vB (decide (x0.N ≥ (-1000000000)))
def Z168 (x0 : Value) : SV := vB ((decide (x0.N ≥ (-1000000000))) && (decide (x0.N ≤ 1000000000)))
def Z169 (x0 : Value) : SV := vB (((decide (x0.N ≥ (-1000000000))) && (decide (x0.N ≤ 1000000000))) && (x0.S == []))
def Z170 (x0 : Value) : SV := vB ((x0.Kind == 2) && (x0.N == 0))
theorem r01_ValidValue_ok {fuel : Nat} {p0 : Value} {r : Bool} (h : r01_ValidValue fuel p0 = some r) : PC Try.prog 84 [.d (encValue p0)] (vB r) := by
  refine PC.of_SW Try.func84 rfl fun H => ?_
  unfold r01_ValidValue at h
  refine SW.kp 33 H [0] [(0, Z58 p0)] (by kernel_rfl) <| SW.R 1 [(1, Z57 p0)] <| SW.seq <| SW.R 1 [(1, Z57 p0), (5, vB (p0.Kind == 1))] ?_
  refine SW.B (p0.Kind == 1) (fun hc => ?_) (fun hc => ?_)
  · replace h := bif_t hc h
    refine SW.S <| OWk.G 4 [(1, Z57 p0), (9, Z167 p0)] <| OWk.M 4 (decide (p0.N ≥ (-1000000000))) (fun b => [(1, Z57 p0), (9, vB b)]) (fun b => [(1, Z57 p0), (13, vB (b && (decide (p0.N ≤ 1000000000))))]) <| OWk.G 1 [(1, Z57 p0), (14, Z168 p0)] <| OWk.M 4 ((decide (p0.N ≥ (-1000000000))) && (decide (p0.N ≤ 1000000000))) (fun b => [(1, Z57 p0), (14, vB b)]) (fun b => [(18, vB (b && (p0.S == [])))]) <| OWk.G 1 [(2, Z169 p0)] <| OWk.E <| SW.ret <| thenS_r ?_
    cases h
    exact EndQ.ret [] (by kernel_rfl) rfl
  · replace h := bif_f hc h
    refine SW.skip <| thenS_n <| SW.S <| OWk.G 4 [(1, Z57 p0), (22, vB (p0.Kind == 2))] <| OWk.M 4 (p0.Kind == 2) (fun b => [(1, Z57 p0), (22, vB b)]) (fun b => [(1, Z57 p0), (26, vB (b && (p0.N == 0)))]) <| OWk.G 1 [(1, Z57 p0), (27, Z170 p0)] ?_
    refine OWk.case ((p0.Kind == 2) && (p0.N == 0)) (fun b => (sp 33 [(1, Z57 p0), (27, vB b)] H)) (by kernel_rfl) (fun hc => ?_) (fun hc => ?_)
    · replace h := bif_t hc h
      refine OWk.G 2 [(27, vB true), (29, vS p0.S)] <| OWk.G 1 [(27, vB true), (30, vI (p0.S.length : Int))] <| OWk.G 3 [(2, Z66 p0)] <| OWk.E <| SW.ret ?_
      cases h
      exact EndQ.ret [] (by kernel_rfl) rfl
    · replace h := bif_f hc h
      refine OWk.G 6 [(2, vB false)] <| OWk.E <| SW.ret ?_
      cases h
      exact EndQ.ret [] (by kernel_rfl) rfl
def r01_ValidRow_l1 (fuel : Nat) (p0 : (List Value)) (y1 : Int) : Option ((Int) ⊕ ((Unit) ⊕ ((Bool)))) :=
  bif (decide (y1 < (p0.length : Int))) then
    (idx p0 y1).bind fun x2 =>
    (r01_ValidValue fuel x2).bind fun r3 =>
    bif (!r3) then
      some (.inr (.inr false))
    else
      some (.inl (IntKind.wrap .i64 (y1 + 1)))
  else
    some (.inr (.inl ()))
def r01_ValidRow (fuel : Nat) (p0 : (List Value)) : Option (Bool) :=
  (iter (r01_ValidRow_l1 fuel p0) fuel 0).bind (Sum.elim (fun v5 =>
    some (decide ((p0.length : Int) ≤ 8))) (fun r6 =>
    some r6))
def Z171 (x0 : (List Value)) : SV := vB (decide ((x0.length : Int) ≤ 8))
theorem r01_ValidRow_ok {fuel : Nat} {p0 : (List Value)} {r : Bool} (h : r01_ValidRow fuel p0 = some r) : PC Try.prog 65 [.d (.list 3 (List.map encValue p0))] (vB r) := by
  refine PC.of_SW Try.func65 rfl fun H => ?_
  unfold r01_ValidRow at h
  refine SW.kp 19 H [0] [(0, Z10 p0)] (by kernel_rfl) <| SW.R 1 [(0, Z10 p0)] <| SW.seq <| SW.R 1 [(0, Z10 p0), (3, vI 0)] <| SW.block ?_
  obtain ⟨z4, hit, h⟩ := bind_inv h
  refine SW.it 19 H [0, 3] (fun y1 => [(0, Z10 p0), (3, vI y1)]) (fun b e s => ((∃ v5, b = (.inl v5) ∧ (e = .exit 0 ∧ s = (sp 19 [(0, Z10 p0)] H))) ∨ (∃ r6, b = (.inr r6) ∧ (e = .ret ∧ EndQ Try.prog Try.f65.results.toList H (vB r6) .ret s)))) hit (by kernel_rfl) (fun y1 o h => ?_) ?_
  · unfold r01_ValidRow_l1 at h
    refine SW.seq <| SW.S <| OWk.G 2 [(0, Z10 p0), (3, vI y1), (4, vI y1), (5, Z10 p0)] <| OWk.O (d := some 6) [(0, Z10 p0), (3, vI y1), (4, vI y1), (6, vI (p0.length : Int))] (BAt.len (enc := encValue) (xs := p0) (by kernel_rfl)) <| OWk.G 1 [(0, Z10 p0), (3, vI y1), (7, Z14 y1 p0)] <| OWk.E ?_
    refine SW.B (decide (y1 < (p0.length : Int))) (fun hc => ?_) (fun hc => ?_)
    · replace h := bif_t hc h
      refine SW.skip <| thenS_n <| SW.seq <| SW.block <| SW.S <| OWk.G 2 [(0, Z10 p0), (3, vI y1), (10, Z10 p0), (11, vI y1)] ?_
      obtain ⟨x2, hx, h⟩ := bind_inv h
      refine OWk.O (d := some 12) (s := lendP none (Go.Sh.D.cells (encValue x2))) [(0, Z10 p0), (3, vI y1), (12, .d (.dptr [.int .i64 x2.Kind, .int .i64 x2.N, .str x2.S]))] (BAt.index (n := 3) hx (by kernel_rfl)) <| OWk.G 1 [(0, Z10 p0), (3, vI y1), (13, Z58 x2)] ?_
      obtain ⟨r3, hr, h⟩ := bind_inv h
      refine OWk.C0 (some 14) [(0, Z10 p0), (3, vI y1), (14, vB r3)] (r01_ValidValue_ok hr) <| OWk.G 1 [(0, Z10 p0), (3, vI y1), (15, vB (!r3))] <| OWk.E ?_
      refine SW.B (!r3) (fun hc => ?_) (fun hc => ?_)
      · replace h := bif_t hc h
        refine SW.R 1 [(2, vB false)] <| SW.ret <| blockS_r <| thenS_r ?_
        cases h
        refine thenS_r ?_
        exact ⟨_, rfl, .inr (⟨false, rfl, rfl, EndQ.ret [] (by kernel_rfl) rfl⟩)⟩
      · replace h := bif_f hc h
        refine SW.skip <| blockS_n <| thenS_n <| SW.regionK <| OWk.G 3 [(0, Z10 p0), (3, Z15 y1)] <| OWk.D ?_
        cases h
        exact ⟨(IntKind.wrap .i64 (y1 + 1)), rfl, by kernel_rfl⟩
    · replace h := bif_f hc h
      refine SW.K [(0, Z10 p0)] <| SW.exit <| thenS_e ?_
      cases h
      refine thenS_e ?_
      exact ⟨_, rfl, .inl ⟨(), rfl, rfl, rfl⟩⟩
  · rintro _ _ (⟨v5, rfl, rfl, rfl⟩ | ⟨r6, rfl, rfl, hE⟩)
    · replace h := sum_l h
      refine blockS_hit <| thenS_n <| SW.S <| OWk.G 1 [(16, Z10 p0)] <| OWk.O (d := some 17) [(17, vI (p0.length : Int))] (BAt.len (enc := encValue) (xs := p0) (by kernel_rfl)) <| OWk.G 2 [(2, Z171 p0)] <| OWk.E <| SW.ret ?_
      cases h
      exact EndQ.ret [] (by kernel_rfl) rfl
    · replace h := sum_r h
      refine blockS_r <| thenS_r ?_
      cases h
      exact hE
def r_Row_l1 (fuel : Nat) (p0 : Sorting) (p1 : (List Value)) (y4 : Int) : Option ((Int) ⊕ ((Unit) ⊕ ((Bool)))) :=
  bif (decide (y4 < (p1.length : Int))) then
    (idx p1 y4).bind fun x5 =>
    (idx p0.Kinds y4).bind fun x6 =>
    bif (x5.Kind != x6) then
      some (.inr (.inr false))
    else
      some (.inl (IntKind.wrap .i64 (y4 + 1)))
  else
    some (.inr (.inl ()))
def r_Row (fuel : Nat) (p0 : Sorting) (p1 : (List Value)) : Option (Bool) :=
  letJ (fun (j1 : Bool) =>
    bif j1 then
      some false
    else
      (iter (r_Row_l1 fuel p0 p1) fuel 0).bind (Sum.elim (fun v8 =>
        some true) (fun r9 =>
        some r9))) fun jp2 =>
  (r01_ValidRow fuel p1).bind fun r3 =>
  bif (!r3) then
    jp2 true
  else
    jp2 ((p1.length : Int) != (p0.Kinds.length : Int))
theorem r_Row_ok {fuel : Nat} {p0 : Sorting} {p1 : (List Value)} {r : Bool} (h : r_Row fuel p0 p1 = some r) : PC Try.prog 47 [.d (encSorting p0), .d (.list 3 (List.map encValue p1))] (vB r) := by
  refine PC.of_SW Try.func47 rfl fun H => ?_
  unfold r_Row at h
  refine SW.kp 34 H [0, 1] [(0, Z2 p0), (1, Z10 p1)] (by kernel_rfl) <| SW.R 1 [(1, Z10 p1), (2, Z0 p0)] <| SW.seq ?_
  obtain ⟨jp2, hjjp2, h⟩ := letJ_inv h
  refine SW.jn 34 H [1, 2, 16] (fun (j1 : Bool) => [(1, Z10 p1), (2, Z0 p0), (16, vB j1)]) (fun v => jp2 v = some r) (fun j1 h => ?_) ?_
  · rw [hjjp2] at h
    refine SW.B j1 (fun hc => ?_) (fun hc => ?_)
    · replace h := bif_t hc h
      refine SW.R 1 [(4, vB false)] <| SW.ret <| thenS_r ?_
      cases h
      exact EndQ.ret [] (by kernel_rfl) rfl
    · replace h := bif_f hc h
      refine SW.skip <| thenS_n <| SW.seq <| SW.R 1 [(1, Z10 p1), (2, Z0 p0), (5, vI 0)] <| SW.block ?_
      obtain ⟨z7, hit, h⟩ := bind_inv h
      refine SW.it 34 H [1, 2, 5] (fun y4 => [(1, Z10 p1), (2, Z0 p0), (5, vI y4)]) (fun b e s => ((∃ v8, b = (.inl v8) ∧ (e = .exit 0 ∧ s = (sp 34 [] H))) ∨ (∃ r9, b = (.inr r9) ∧ (e = .ret ∧ EndQ Try.prog Try.f47.results.toList H (vB r9) .ret s)))) hit (by kernel_rfl) (fun y4 o h => ?_) ?_
      · unfold r_Row_l1 at h
        refine SW.seq <| SW.S <| OWk.G 2 [(1, Z10 p1), (2, Z0 p0), (5, vI y4), (17, vI y4), (18, Z10 p1)] <| OWk.O (d := some 19) [(1, Z10 p1), (2, Z0 p0), (5, vI y4), (17, vI y4), (19, vI (p1.length : Int))] (BAt.len (enc := encValue) (xs := p1) (by kernel_rfl)) <| OWk.G 1 [(1, Z10 p1), (2, Z0 p0), (5, vI y4), (20, Z14 y4 p1)] <| OWk.E ?_
        refine SW.B (decide (y4 < (p1.length : Int))) (fun hc => ?_) (fun hc => ?_)
        · replace h := bif_t hc h
          refine SW.skip <| thenS_n <| SW.seq <| SW.block <| SW.seq <| SW.regionDk (by kernel_rfl) (by kernel_rfl) <| OBk.G 2 [(1, Z10 p1), (2, Z0 p0), (5, vI y4), (23, Z10 p1), (24, vI y4)] ?_
          obtain ⟨x5, hx, h⟩ := bind_inv h
          refine OBk.O (d := some 25) (s := lendP none (Go.Sh.D.cells (encValue x5))) [(1, Z10 p1), (2, Z0 p0), (5, vI y4), (25, .d (.dptr [.int .i64 x5.Kind, .int .i64 x5.N, .str x5.S]))] (BAt.index (n := 3) hx (by kernel_rfl)) <| OBk.G 5 [(1, Z10 p1), (2, Z0 p0), (5, vI y4), (27, vI x5.Kind), (29, Z19 p0), (30, vI y4)] ?_
          obtain ⟨x6, hx, h⟩ := bind_inv h
          refine OBk.O (d := some 31) (s := lendP none (Go.Sh.D.cells ((D.int .i64) x6))) [(1, Z10 p1), (2, Z0 p0), (5, vI y4), (27, vI x5.Kind), (31, .d (.dptr [.int .i64 x6]))] (BAt.index (n := 1) hx (by kernel_rfl)) <| OBk.G 2 [(1, Z10 p1), (2, Z0 p0), (5, vI y4), (33, vB (x5.Kind != x6))] <| OBk.done (by kernel_rfl) <| thenS_n ?_
          refine SW.B (x5.Kind != x6) (fun hc => ?_) (fun hc => ?_)
          · replace h := bif_t hc h
            refine SW.R 1 [(4, vB false)] <| SW.ret <| blockS_r <| thenS_r ?_
            cases h
            refine thenS_r ?_
            exact ⟨_, rfl, .inr (⟨false, rfl, rfl, EndQ.ret [] (by kernel_rfl) rfl⟩)⟩
          · replace h := bif_f hc h
            refine SW.skip <| blockS_n <| thenS_n <| SW.regionK <| OWk.G 3 [(1, Z10 p1), (2, Z0 p0), (5, Z15 y4)] <| OWk.D ?_
            cases h
            exact ⟨(IntKind.wrap .i64 (y4 + 1)), rfl, by kernel_rfl⟩
        · replace h := bif_f hc h
          refine SW.K [] <| SW.exit <| thenS_e ?_
          cases h
          refine thenS_e ?_
          exact ⟨_, rfl, .inl ⟨(), rfl, rfl, rfl⟩⟩
      · rintro _ _ (⟨v8, rfl, rfl, rfl⟩ | ⟨r9, rfl, rfl, hE⟩)
        · replace h := sum_l h
          refine blockS_hit <| thenS_n <| SW.R 1 [(4, vB true)] <| SW.ret ?_
          cases h
          exact EndQ.ret [] (by kernel_rfl) rfl
        · replace h := sum_r h
          refine blockS_r <| thenS_r ?_
          cases h
          exact hE
  · refine SW.regionK <| OWk.G 1 [(1, Z10 p1), (2, Z0 p0), (6, Z10 p1)] ?_
    obtain ⟨r3, hr, h⟩ := bind_inv h
    refine OWk.C0 (some 7) [(1, Z10 p1), (2, Z0 p0), (7, vB r3)] (r01_ValidRow_ok hr) <| OWk.G 2 [(1, Z10 p1), (2, Z0 p0), (9, vB (!r3))] ?_
    refine OWk.case (!r3) (fun b => (sp 34 [(1, Z10 p1), (2, Z0 p0), (9, vB b)] H)) (by kernel_rfl) (fun hc => ?_) (fun hc => ?_)
    · replace h := bif_t hc h
      refine OWk.G 7 [(1, Z10 p1), (2, Z0 p0), (16, vB true)] <| OWk.D ?_
      exact ⟨true, [], by kernel_rfl, h⟩
    · replace h := bif_f hc h
      refine OWk.G 1 [(1, Z10 p1), (2, Z0 p0), (9, vB false), (10, Z10 p1)] <| OWk.O (d := some 11) [(1, Z10 p1), (2, Z0 p0), (9, vB false), (11, vI (p1.length : Int))] (BAt.len (enc := encValue) (xs := p1) (by kernel_rfl)) <| OWk.G 2 [(1, Z10 p1), (2, Z0 p0), (9, vB false), (11, vI (p1.length : Int)), (13, Z19 p0)] <| OWk.O (d := some 14) [(1, Z10 p1), (2, Z0 p0), (9, vB false), (11, vI (p1.length : Int)), (14, Z24 p0)] (BAt.len (enc := (D.int .i64)) (xs := p0.Kinds) (by kernel_rfl)) <| OWk.G 2 [(1, Z10 p1), (2, Z0 p0), (16, Z56 p1 p0)] <| OWk.D ?_
      exact ⟨((p1.length : Int) != (p0.Kinds.length : Int)), [], by kernel_rfl, h⟩
def r_key (fuel : Nat) (p0 : Int) : Option (Bool) :=
  some ((decide (p0 ≥ 1)) && (decide (p0 ≤ 1000000)))
theorem r_key_ok {fuel : Nat} {p0 : Int} {r : Bool} (h : r_key fuel p0 = some r) : PC Try.prog 48 [vI p0] (vB r) := by
  refine PC.of_SW Try.func48 rfl fun H => ?_
  unfold r_key at h
  refine SW.kp 9 H [0] [(0, vI p0)] (by kernel_rfl) <| SW.R 1 [(0, vI p0)] <| SW.S <| OWk.G 3 [(0, vI p0), (5, vB (decide (p0 ≥ 1)))] <| OWk.M 3 (decide (p0 ≥ 1)) (fun b => [(0, vI p0), (5, vB b)]) (fun b => [(8, vB (b && (decide (p0 ≤ 1000000))))]) <| OWk.G 1 [(2, Z71 p0)] <| OWk.E <| SW.ret ?_
  cases h
  exact EndQ.ret [] (by kernel_rfl) rfl
def r_entry (fuel : Nat) (p0 : Sorting) (p1 : Entry) : Option (Bool) :=
  (r_Row fuel p0 p1.Row).bind fun r1 =>
  bif r1 then
    (r_key fuel p1.Key).bind fun r2 =>
    some (r2 && (decide (p1.Number ≥ 1)))
  else
    some false
def Z172 (x0 : Bool) (x1 : Entry) : SV := vB (x0 && (decide (x1.Number ≥ 1)))
theorem r_entry_ok {fuel : Nat} {p0 : Sorting} {p1 : Entry} {r : Bool} (h : r_entry fuel p0 p1 = some r) : PC Try.prog 23 [.d (encSorting p0), .d (encEntry p1)] (vB r) := by
  refine PC.of_SW Try.func23 rfl fun H => ?_
  unfold r_entry at h
  refine SW.kp 19 H [0, 1] [(0, Z2 p0), (1, Z76 p1)] (by kernel_rfl) <| SW.R 1 [(2, Z0 p0), (3, Z1 p1)] <| SW.S <| OWk.G 3 [(3, Z1 p1), (5, Z2 p0), (7, Z83 p1)] ?_
  obtain ⟨r1, hr, h⟩ := bind_inv h
  refine OWk.C0 (some 8) [(3, Z1 p1), (8, vB r1)] (r_Row_ok hr) <| OWk.G 1 [(3, Z1 p1), (9, vB r1)] ?_
  refine OWk.case r1 (fun b => (sp 19 [(3, Z1 p1), (9, vB b)] H)) (by kernel_rfl) (fun hc => ?_) (fun hc => ?_)
  · replace h := bif_t hc h
    refine OWk.G 2 [(3, Z1 p1), (9, vB true), (11, vI p1.Key)] ?_
    obtain ⟨r2, hr, h⟩ := bind_inv h
    refine OWk.C0 (some 12) [(3, Z1 p1), (9, vB true), (12, vB r2)] (r_key_ok hr) <| OWk.G 2 [(3, Z1 p1), (14, vB r2)] <| OWk.M 4 r2 (fun b => [(3, Z1 p1), (14, vB b)]) (fun b => [(18, vB (b && (decide (p1.Number ≥ 1))))]) <| OWk.G 1 [(4, Z172 r2 p1)] <| OWk.E <| SW.ret ?_
    cases h
    exact EndQ.ret [] (by kernel_rfl) rfl
  · replace h := bif_f hc h
    refine OWk.G 10 [(4, vB false)] <| OWk.E <| SW.ret ?_
    cases h
    exact EndQ.ret [] (by kernel_rfl) rfl
def r01_less (fuel : Nat) (p0 : Int) (p1 : Int) : Option (Int) :=
  bif (decide (p0 < p1)) then
    some (-1)
  else
    bif (decide (p0 > p1)) then
      some 1
    else
      some 0
theorem r01_less_ok {fuel : Nat} {p0 : Int} {p1 : Int} {r : Int} (h : r01_less fuel p0 p1 = some r) : PC Try.prog 85 [vI p0, vI p1] (vI r) := by
  refine PC.of_SW Try.func85 rfl fun H => ?_
  unfold r01_less at h
  refine SW.kp 13 H [0, 1] [(0, vI p0), (1, vI p1)] (by kernel_rfl) <| SW.R 1 [(0, vI p0), (1, vI p1)] <| SW.seq <| SW.block <| SW.R 1 [(0, vI p0), (1, vI p1), (5, vB (decide (p0 < p1)))] ?_
  refine SW.B (decide (p0 < p1)) (fun hc => ?_) (fun hc => ?_)
  · replace h := bif_t hc h
    refine SW.R 1 [(4, vI (-1))] <| SW.ret <| blockS_r <| thenS_r ?_
    cases h
    exact EndQ.ret [] (by kernel_rfl) rfl
  · replace h := bif_f hc h
    refine SW.R 1 [(9, vB (decide (p0 > p1)))] ?_
    refine SW.B (decide (p0 > p1)) (fun hc => ?_) (fun hc => ?_)
    · replace h := bif_t hc h
      refine SW.R 1 [(4, vI 1)] <| SW.ret <| blockS_r <| thenS_r ?_
      cases h
      exact EndQ.ret [] (by kernel_rfl) rfl
    · replace h := bif_f hc h
      refine SW.skip <| blockS_n <| thenS_n <| SW.R 1 [(4, vI 0)] <| SW.ret ?_
      cases h
      exact EndQ.ret [] (by kernel_rfl) rfl
def r01_Sign (fuel : Nat) (p0 : Int) : Option (Int) :=
  bif (decide (p0 < 0)) then
    some (-1)
  else
    bif (decide (p0 > 0)) then
      some 1
    else
      some 0
def Z174 (x0 : UInt8) : SV := .d (.int .u8 (x0.toNat : Int))
def Z175 (x0 : UInt8) (x1 : UInt8) : SV := vB ((x0.toNat : Int) != (x1.toNat : Int))
def Z176 (x0 : UInt8) : SV := vI (IntKind.wrap .i64 (x0.toNat : Int))
def Z177 (x0 : UInt8) (x1 : UInt8) : SV := vI (IntKind.wrap .i64 ((IntKind.wrap .i64 (x0.toNat : Int)) - (IntKind.wrap .i64 (x1.toNat : Int))))
theorem r01_Sign_ok {fuel : Nat} {p0 : Int} {r : Int} (h : r01_Sign fuel p0 = some r) : PC Try.prog 94 [vI p0] (vI r) := by
  refine PC.of_SW Try.func94 rfl fun H => ?_
  unfold r01_Sign at h
  refine SW.kp 9 H [0] [(0, vI p0)] (by kernel_rfl) <| SW.R 1 [(0, vI p0)] <| SW.seq <| SW.block <| SW.R 1 [(0, vI p0), (3, vB (decide (p0 < 0)))] ?_
  refine SW.B (decide (p0 < 0)) (fun hc => ?_) (fun hc => ?_)
  · replace h := bif_t hc h
    refine SW.R 1 [(2, vI (-1))] <| SW.ret <| blockS_r <| thenS_r ?_
    cases h
    exact EndQ.ret [] (by kernel_rfl) rfl
  · replace h := bif_f hc h
    refine SW.R 1 [(6, vB (decide (p0 > 0)))] ?_
    refine SW.B (decide (p0 > 0)) (fun hc => ?_) (fun hc => ?_)
    · replace h := bif_t hc h
      refine SW.R 1 [(2, vI 1)] <| SW.ret <| blockS_r <| thenS_r ?_
      cases h
      exact EndQ.ret [] (by kernel_rfl) rfl
    · replace h := bif_f hc h
      refine SW.skip <| blockS_n <| thenS_n <| SW.R 1 [(2, vI 0)] <| SW.ret ?_
      cases h
      exact EndQ.ret [] (by kernel_rfl) rfl
def r01_texts_l1 (fuel : Nat) (p0 : (List UInt8)) (p1 : (List UInt8)) (y1 : Int) : Option ((Int) ⊕ ((Unit) ⊕ ((Int)))) :=
  letJ (fun (j2 : Bool) =>
    bif j2 then
      (idx p0 y1).bind fun b4 =>
      (idx p1 y1).bind fun b5 =>
      bif ((b4.toNat : Int) != (b5.toNat : Int)) then
        (idx p0 y1).bind fun b6 =>
        (idx p1 y1).bind fun b7 =>
        (r01_Sign fuel (IntKind.wrap .i64 ((IntKind.wrap .i64 (b6.toNat : Int)) - (IntKind.wrap .i64 (b7.toNat : Int))))).bind fun r8 =>
        some (.inr (.inr r8))
      else
        some (.inl (IntKind.wrap .i64 (y1 + 1)))
    else
      some (.inr (.inl ()))) fun jp3 =>
  bif (decide (y1 < (p0.length : Int))) then
    jp3 (decide (y1 < (p1.length : Int)))
  else
    jp3 false
def r01_texts (fuel : Nat) (p0 : (List UInt8)) (p1 : (List UInt8)) : Option (Int) :=
  (iter (r01_texts_l1 fuel p0 p1) fuel 0).bind (Sum.elim (fun v10 =>
    (r01_Sign fuel (IntKind.wrap .i64 ((p0.length : Int) - (p1.length : Int)))).bind fun r11 =>
    some r11) (fun r12 =>
    some r12))
def Z178 (x0 : Int) (x1 : (List UInt8)) : SV := vB (decide (x0 < (x1.length : Int)))
def Z179 (x0 : (List UInt8)) (x1 : (List UInt8)) : SV := vI (IntKind.wrap .i64 ((x0.length : Int) - (x1.length : Int)))
theorem r01_texts_ok {fuel : Nat} {p0 : (List UInt8)} {p1 : (List UInt8)} {r : Int} (h : r01_texts fuel p0 p1 = some r) : PC Try.prog 86 [vS p0, vS p1] (vI r) := by
  refine PC.of_SW Try.func86 rfl fun H => ?_
  unfold r01_texts at h
  refine SW.kp 41 H [0, 1] [(0, vS p0), (1, vS p1)] (by kernel_rfl) <| SW.R 1 [(0, vS p0), (1, vS p1)] <| SW.seq <| SW.R 1 [(0, vS p0), (1, vS p1), (5, vI 0)] <| SW.block ?_
  obtain ⟨z9, hit, h⟩ := bind_inv h
  refine SW.it 41 H [0, 1, 5] (fun y1 => [(0, vS p0), (1, vS p1), (5, vI y1)]) (fun b e s => ((∃ v10, b = (.inl v10) ∧ (e = .exit 0 ∧ s = (sp 41 [(0, vS p0), (1, vS p1)] H))) ∨ (∃ r12, b = (.inr r12) ∧ (e = .ret ∧ EndQ Try.prog Try.f86.results.toList H (vI r12) .ret s)))) hit (by kernel_rfl) (fun y1 o h => ?_) ?_
  · unfold r01_texts_l1 at h
    refine SW.seq ?_
    obtain ⟨jp3, hjjp3, h⟩ := letJ_inv h
    refine SW.jn 41 H [0, 1, 5, 15] (fun (j2 : Bool) => [(0, vS p0), (1, vS p1), (5, vI y1), (15, vB j2)]) (fun v => jp3 v = some o) (fun j2 h => ?_) ?_
    · rw [hjjp3] at h
      refine SW.B j2 (fun hc => ?_) (fun hc => ?_)
      · replace h := bif_t hc h
        refine SW.skip <| thenS_n <| SW.seq <| SW.block <| SW.seq <| SW.regionDk (by kernel_rfl) (by kernel_rfl) <| OBk.G 2 [(0, vS p0), (1, vS p1), (5, vI y1), (18, vS p0), (19, vI y1)] ?_
        obtain ⟨b4, hx, h⟩ := bind_inv h
        refine OBk.O (d := some 20) [(0, vS p0), (1, vS p1), (5, vI y1), (20, .d (.int .u8 (b4.toNat : Int)))] (BAt.indexS hx (by kernel_rfl)) <| OBk.G 2 [(0, vS p0), (1, vS p1), (5, vI y1), (20, Z174 b4), (21, vS p1), (22, vI y1)] ?_
        obtain ⟨b5, hx, h⟩ := bind_inv h
        refine OBk.O (d := some 23) [(0, vS p0), (1, vS p1), (5, vI y1), (20, Z174 b4), (23, .d (.int .u8 (b5.toNat : Int)))] (BAt.indexS hx (by kernel_rfl)) <| OBk.G 1 [(0, vS p0), (1, vS p1), (5, vI y1), (24, Z175 b4 b5)] <| OBk.done (by kernel_rfl) <| thenS_n ?_
        refine SW.B ((b4.toNat : Int) != (b5.toNat : Int)) (fun hc => ?_) (fun hc => ?_)
        · replace h := bif_t hc h
          refine SW.seq <| SW.regionQ (by kernel_rfl) (by kernel_rfl) <| OQk.G 2 [(1, vS p1), (5, vI y1), (25, vS p0), (26, vI y1)] ?_
          obtain ⟨b6, hx, h⟩ := bind_inv h
          refine OQk.on 41 H (d := some 27) [1, 5, 27] [(1, vS p1), (5, vI y1), (27, .d (.int .u8 (b6.toNat : Int)))] (BAt.indexS hx (by kernel_rfl)) (by kernel_rfl) <| OQk.G 3 [(28, Z176 b6), (29, vS p1), (30, vI y1)] ?_
          obtain ⟨b7, hx, h⟩ := bind_inv h
          refine OQk.on 41 H (d := some 31) [28, 31] [(28, Z176 b6), (31, .d (.int .u8 (b7.toNat : Int)))] (BAt.indexS hx (by kernel_rfl)) (by kernel_rfl) <| OQk.G 2 [(33, Z177 b6 b7)] ?_
          obtain ⟨r8, hr, h⟩ := bind_inv h
          refine OQk.cl 41 H (d := some 34) (ls := []) [34] [(34, vI r8)] (r01_Sign_ok hr) (by kernel_rfl) (by kernel_rfl) (by kernel_rfl) <| OQk.G 1 [(4, vI r8)] <| OQk.done (by kernel_rfl) <| thenS_n <| SW.ret <| blockS_r <| thenS_r ?_
          cases h
          refine thenS_r ?_
          exact ⟨_, rfl, .inr (⟨r8, rfl, rfl, EndQ.ret [] (by kernel_rfl) rfl⟩)⟩
        · replace h := bif_f hc h
          refine SW.skip <| blockS_n <| thenS_n <| SW.regionK <| OWk.G 3 [(0, vS p0), (1, vS p1), (5, Z15 y1)] <| OWk.D ?_
          cases h
          exact ⟨(IntKind.wrap .i64 (y1 + 1)), rfl, by kernel_rfl⟩
      · replace h := bif_f hc h
        refine SW.K [(0, vS p0), (1, vS p1)] <| SW.exit <| thenS_e ?_
        cases h
        refine thenS_e ?_
        exact ⟨_, rfl, .inl ⟨(), rfl, rfl, rfl⟩⟩
    · refine SW.regionK <| OWk.G 2 [(0, vS p0), (1, vS p1), (5, vI y1), (6, vI y1), (7, vS p0)] <| OWk.G 1 [(0, vS p0), (1, vS p1), (5, vI y1), (6, vI y1), (8, vI (p0.length : Int))] <| OWk.G 2 [(0, vS p0), (1, vS p1), (5, vI y1), (10, Z178 y1 p0)] ?_
      refine OWk.case (decide (y1 < (p0.length : Int))) (fun b => (sp 41 [(0, vS p0), (1, vS p1), (5, vI y1), (10, vB b)] H)) (by kernel_rfl) (fun hc => ?_) (fun hc => ?_)
      · replace h := bif_t hc h
        refine OWk.G 2 [(0, vS p0), (1, vS p1), (5, vI y1), (10, vB true), (11, vI y1), (12, vS p1)] <| OWk.G 1 [(0, vS p0), (1, vS p1), (5, vI y1), (10, vB true), (11, vI y1), (13, vI (p1.length : Int))] <| OWk.G 2 [(0, vS p0), (1, vS p1), (5, vI y1), (15, Z178 y1 p1)] <| OWk.D ?_
        exact ⟨(decide (y1 < (p1.length : Int))), [], by kernel_rfl, h⟩
      · replace h := bif_f hc h
        refine OWk.G 5 [(0, vS p0), (1, vS p1), (5, vI y1), (15, vB false)] <| OWk.D ?_
        exact ⟨false, [], by kernel_rfl, h⟩
  · rintro _ _ (⟨v10, rfl, rfl, rfl⟩ | ⟨r12, rfl, rfl, hE⟩)
    · replace h := sum_l h
      refine blockS_hit <| thenS_n <| SW.S <| OWk.G 1 [(1, vS p1), (35, vS p0)] <| OWk.G 1 [(1, vS p1), (36, vI (p0.length : Int))] <| OWk.G 1 [(36, vI (p0.length : Int)), (37, vS p1)] <| OWk.G 1 [(36, vI (p0.length : Int)), (38, vI (p1.length : Int))] <| OWk.G 1 [(39, Z179 p0 p1)] ?_
      obtain ⟨r11, hr, h⟩ := bind_inv h
      refine OWk.C0 (some 40) [(40, vI r11)] (r01_Sign_ok hr) <| OWk.G 1 [(4, vI r11)] <| OWk.E <| SW.ret ?_
      cases h
      exact EndQ.ret [] (by kernel_rfl) rfl
    · replace h := sum_r h
      refine blockS_r <| thenS_r ?_
      cases h
      exact hE
def r01_Compare (fuel : Nat) (p0 : Value) (p1 : Value) : Option (Int) :=
  (r01_less fuel p0.Kind p1.Kind).bind fun r1 =>
  bif (r1 != 0) then
    some r1
  else
    (r01_less fuel p0.N p1.N).bind fun r2 =>
    bif (r2 != 0) then
      some r2
    else
      (r01_texts fuel p0.S p1.S).bind fun r3 =>
      some r3
theorem r01_Compare_ok {fuel : Nat} {p0 : Value} {p1 : Value} {r : Int} (h : r01_Compare fuel p0 p1 = some r) : PC Try.prog 66 [.d (encValue p0), .d (encValue p1)] (vI r) := by
  refine PC.of_SW Try.func66 rfl fun H => ?_
  unfold r01_Compare at h
  refine SW.kp 28 H [0, 1] [(0, Z58 p0), (1, Z58 p1)] (by kernel_rfl) <| SW.R 1 [(2, Z57 p0), (3, Z57 p1)] <| SW.seq <| SW.S <| OWk.G 4 [(2, Z57 p0), (3, Z57 p1), (8, vI p0.Kind), (10, vI p1.Kind)] ?_
  obtain ⟨r1, hr, h⟩ := bind_inv h
  refine OWk.C0 (some 11) [(2, Z57 p0), (3, Z57 p1), (11, vI r1)] (r01_less_ok hr) <| OWk.G 1 [(2, Z57 p0), (3, Z57 p1), (5, vI r1)] <| OWk.E <| SW.R 1 [(2, Z57 p0), (3, Z57 p1), (5, vI r1), (13, vB (r1 != 0))] ?_
  refine SW.B (r1 != 0) (fun hc => ?_) (fun hc => ?_)
  · replace h := bif_t hc h
    refine SW.R 1 [(4, vI r1)] <| SW.ret <| thenS_r ?_
    cases h
    exact EndQ.ret [] (by kernel_rfl) rfl
  · replace h := bif_f hc h
    refine SW.skip <| thenS_n <| SW.seq <| SW.S <| OWk.G 4 [(2, Z57 p0), (3, Z57 p1), (16, vI p0.N), (18, vI p1.N)] ?_
    obtain ⟨r2, hr, h⟩ := bind_inv h
    refine OWk.C0 (some 19) [(2, Z57 p0), (3, Z57 p1), (19, vI r2)] (r01_less_ok hr) <| OWk.G 1 [(2, Z57 p0), (3, Z57 p1), (6, vI r2)] <| OWk.E <| SW.R 1 [(2, Z57 p0), (3, Z57 p1), (6, vI r2), (21, vB (r2 != 0))] ?_
    refine SW.B (r2 != 0) (fun hc => ?_) (fun hc => ?_)
    · replace h := bif_t hc h
      refine SW.R 1 [(4, vI r2)] <| SW.ret <| thenS_r ?_
      cases h
      exact EndQ.ret [] (by kernel_rfl) rfl
    · replace h := bif_f hc h
      refine SW.skip <| thenS_n <| SW.S <| OWk.G 4 [(24, vS p0.S), (26, vS p1.S)] ?_
      obtain ⟨r3, hr, h⟩ := bind_inv h
      refine OWk.C0 (some 27) [(27, vI r3)] (r01_texts_ok hr) <| OWk.G 1 [(4, vI r3)] <| OWk.E <| SW.ret ?_
      cases h
      exact EndQ.ret [] (by kernel_rfl) rfl
def r_Order_l1 (fuel : Nat) (p0 : Sorting) (p1 : (List Value)) (p2 : (List Value)) (y1 : Int) : Option ((Int) ⊕ ((Unit) ⊕ ((Int)))) :=
  bif (decide (y1 < (p1.length : Int))) then
    (idx p1 y1).bind fun x2 =>
    (idx p2 y1).bind fun x3 =>
    (r01_Compare fuel x2 x3).bind fun r4 =>
    (idx p0.Down y1).bind fun x5 =>
    bif x5 then
      bif ((IntKind.wrap .i64 (0 - r4)) != 0) then
        some (.inr (.inr (IntKind.wrap .i64 (0 - r4))))
      else
        some (.inl (IntKind.wrap .i64 (y1 + 1)))
    else
      bif (r4 != 0) then
        some (.inr (.inr r4))
      else
        some (.inl (IntKind.wrap .i64 (y1 + 1)))
  else
    some (.inr (.inl ()))
def r_Order (fuel : Nat) (p0 : Sorting) (p1 : (List Value)) (p2 : (List Value)) : Option (Int) :=
  (iter (r_Order_l1 fuel p0 p1 p2) fuel 0).bind (Sum.elim (fun v7 =>
    some 0) (fun r8 =>
    some r8))
def Z180 (x0 : Int) : SV := vI (IntKind.wrap .i64 (0 - x0))
def Z181 (x0 : Int) : SV := vB ((IntKind.wrap .i64 (0 - x0)) != 0)
theorem r_Order_ok {fuel : Nat} {p0 : Sorting} {p1 : (List Value)} {p2 : (List Value)} {r : Int} (h : r_Order fuel p0 p1 p2 = some r) : PC Try.prog 49 [.d (encSorting p0), .d (.list 3 (List.map encValue p1)), .d (.list 3 (List.map encValue p2))] (vI r) := by
  refine PC.of_SW Try.func49 rfl fun H => ?_
  unfold r_Order at h
  refine SW.kp 34 H [0, 1, 2] [(0, Z2 p0), (1, Z10 p1), (2, Z10 p2)] (by kernel_rfl) <| SW.R 1 [(1, Z10 p1), (2, Z10 p2), (3, Z0 p0)] <| SW.seq <| SW.R 1 [(1, Z10 p1), (2, Z10 p2), (3, Z0 p0), (7, vI 0)] <| SW.block ?_
  obtain ⟨z6, hit, h⟩ := bind_inv h
  refine SW.it 34 H [1, 2, 3, 7] (fun y1 => [(1, Z10 p1), (2, Z10 p2), (3, Z0 p0), (7, vI y1)]) (fun b e s => ((∃ v7, b = (.inl v7) ∧ (e = .exit 0 ∧ s = (sp 34 [] H))) ∨ (∃ r8, b = (.inr r8) ∧ (e = .ret ∧ EndQ Try.prog Try.f49.results.toList H (vI r8) .ret s)))) hit (by kernel_rfl) (fun y1 o h => ?_) ?_
  · unfold r_Order_l1 at h
    refine SW.seq <| SW.S <| OWk.G 2 [(1, Z10 p1), (2, Z10 p2), (3, Z0 p0), (7, vI y1), (9, vI y1), (10, Z10 p1)] <| OWk.O (d := some 11) [(1, Z10 p1), (2, Z10 p2), (3, Z0 p0), (7, vI y1), (9, vI y1), (11, vI (p1.length : Int))] (BAt.len (enc := encValue) (xs := p1) (by kernel_rfl)) <| OWk.G 1 [(1, Z10 p1), (2, Z10 p2), (3, Z0 p0), (7, vI y1), (12, Z14 y1 p1)] <| OWk.E ?_
    refine SW.B (decide (y1 < (p1.length : Int))) (fun hc => ?_) (fun hc => ?_)
    · replace h := bif_t hc h
      refine SW.skip <| thenS_n <| SW.seq <| SW.block <| SW.seq <| SW.regionQ (by kernel_rfl) (by kernel_rfl) <| OQk.G 2 [(1, Z10 p1), (2, Z10 p2), (3, Z0 p0), (7, vI y1), (15, Z10 p1), (16, vI y1)] ?_
      obtain ⟨x2, hx, h⟩ := bind_inv h
      refine OQk.on 34 H (d := some 17) (s := lendP none (Go.Sh.D.cells (encValue x2))) [1, 2, 3, 7, 17] [(1, Z10 p1), (2, Z10 p2), (3, Z0 p0), (7, vI y1), (17, .d (.dptr [.int .i64 x2.Kind, .int .i64 x2.N, .str x2.S]))] (BAt.index (n := 3) hx (by kernel_rfl)) (by kernel_rfl) <| OQk.G 3 [(1, Z10 p1), (2, Z10 p2), (3, Z0 p0), (7, vI y1), (18, Z58 x2), (19, Z10 p2), (20, vI y1)] ?_
      obtain ⟨x3, hx, h⟩ := bind_inv h
      refine OQk.on 34 H (d := some 21) (s := lendP none (Go.Sh.D.cells (encValue x3))) [1, 2, 3, 7, 18, 21] [(1, Z10 p1), (2, Z10 p2), (3, Z0 p0), (7, vI y1), (18, Z58 x2), (21, .d (.dptr [.int .i64 x3.Kind, .int .i64 x3.N, .str x3.S]))] (BAt.index (n := 3) hx (by kernel_rfl)) (by kernel_rfl) <| OQk.G 1 [(1, Z10 p1), (2, Z10 p2), (3, Z0 p0), (7, vI y1), (18, Z58 x2), (22, Z58 x3)] ?_
      obtain ⟨r4, hr, h⟩ := bind_inv h
      refine OQk.cl 34 H (d := some 23) (ls := []) [1, 2, 3, 7, 23] [(1, Z10 p1), (2, Z10 p2), (3, Z0 p0), (7, vI y1), (23, vI r4)] (r01_Compare_ok hr) (by kernel_rfl) (by kernel_rfl) (by kernel_rfl) <| OQk.G 1 [(1, Z10 p1), (2, Z10 p2), (3, Z0 p0), (7, vI y1), (8, vI r4)] <| OQk.done (by kernel_rfl) <| thenS_n <| SW.seq <| SW.S <| OWk.G 3 [(1, Z10 p1), (2, Z10 p2), (3, Z0 p0), (7, vI y1), (8, vI r4), (25, Z21 p0), (26, vI y1)] ?_
      obtain ⟨x5, hx, h⟩ := bind_inv h
      refine OWk.O (d := some 27) (s := lendP none (Go.Sh.D.cells (D.bool x5))) [(1, Z10 p1), (2, Z10 p2), (3, Z0 p0), (7, vI y1), (8, vI r4), (27, .d (.dptr [.bool x5]))] (BAt.index (n := 1) hx (by kernel_rfl)) <| OWk.G 1 [(1, Z10 p1), (2, Z10 p2), (3, Z0 p0), (7, vI y1), (8, vI r4), (28, vB x5)] <| OWk.E ?_
      refine SW.B x5 (fun hc => ?_) (fun hc => ?_)
      · replace h := bif_t hc h
        refine SW.regionK <| OWk.G 3 [(1, Z10 p1), (2, Z10 p2), (3, Z0 p0), (7, vI y1), (8, Z180 r4)] <| OWk.E <| SW.R 1 [(1, Z10 p1), (2, Z10 p2), (3, Z0 p0), (7, vI y1), (8, Z180 r4), (32, Z181 r4)] ?_
        refine SW.B ((IntKind.wrap .i64 (0 - r4)) != 0) (fun hc => ?_) (fun hc => ?_)
        · replace h := bif_t hc h
          refine SW.R 1 [(6, Z180 r4)] <| SW.ret <| blockS_r <| thenS_r ?_
          cases h
          refine thenS_r ?_
          exact ⟨_, rfl, .inr (⟨(IntKind.wrap .i64 (0 - r4)), rfl, rfl, EndQ.ret [] (by kernel_rfl) rfl⟩)⟩
        · replace h := bif_f hc h
          refine SW.skip <| blockS_n <| thenS_n <| SW.regionK <| OWk.G 3 [(1, Z10 p1), (2, Z10 p2), (3, Z0 p0), (7, Z15 y1)] <| OWk.D ?_
          cases h
          exact ⟨(IntKind.wrap .i64 (y1 + 1)), rfl, by kernel_rfl⟩
      · replace h := bif_f hc h
        refine SW.skip <| thenS_n <| SW.R 1 [(1, Z10 p1), (2, Z10 p2), (3, Z0 p0), (7, vI y1), (8, vI r4), (32, vB (r4 != 0))] ?_
        refine SW.B (r4 != 0) (fun hc => ?_) (fun hc => ?_)
        · replace h := bif_t hc h
          refine SW.R 1 [(6, vI r4)] <| SW.ret <| blockS_r <| thenS_r ?_
          cases h
          refine thenS_r ?_
          exact ⟨_, rfl, .inr (⟨r4, rfl, rfl, EndQ.ret [] (by kernel_rfl) rfl⟩)⟩
        · replace h := bif_f hc h
          refine SW.skip <| blockS_n <| thenS_n <| SW.regionK <| OWk.G 3 [(1, Z10 p1), (2, Z10 p2), (3, Z0 p0), (7, Z15 y1)] <| OWk.D ?_
          cases h
          exact ⟨(IntKind.wrap .i64 (y1 + 1)), rfl, by kernel_rfl⟩
    · replace h := bif_f hc h
      refine SW.K [] <| SW.exit <| thenS_e ?_
      cases h
      refine thenS_e ?_
      exact ⟨_, rfl, .inl ⟨(), rfl, rfl, rfl⟩⟩
  · rintro _ _ (⟨v7, rfl, rfl, rfl⟩ | ⟨r8, rfl, rfl, hE⟩)
    · replace h := sum_l h
      refine blockS_hit <| thenS_n <| SW.R 1 [(6, vI 0)] <| SW.ret ?_
      cases h
      exact EndQ.ret [] (by kernel_rfl) rfl
    · replace h := sum_r h
      refine blockS_r <| thenS_r ?_
      cases h
      exact hE
def r_Before (fuel : Nat) (p0 : Sorting) (p1 : Entry) (p2 : Entry) : Option (Bool) :=
  (r_Order fuel p0 p1.Row p2.Row).bind fun r1 =>
  bif (r1 != 0) then
    some (decide (r1 < 0))
  else
    bif (p0.Dup == 2) then
      some (decide (p1.Number > p2.Number))
    else
      some (decide (p1.Number < p2.Number))
def Z182 (x0 : Entry) (x1 : Entry) : SV := vB (decide (x0.Number > x1.Number))
def Z183 (x0 : Entry) (x1 : Entry) : SV := vB (decide (x0.Number < x1.Number))
theorem r_Before_ok {fuel : Nat} {p0 : Sorting} {p1 : Entry} {p2 : Entry} {r : Bool} (h : r_Before fuel p0 p1 p2 = some r) : PC Try.prog 24 [.d (encSorting p0), .d (encEntry p1), .d (encEntry p2)] (vB r) := by
  refine PC.of_SW Try.func24 rfl fun H => ?_
  unfold r_Before at h
  refine SW.kp 31 H [0, 1, 2] [(0, Z2 p0), (1, Z76 p1), (2, Z76 p2)] (by kernel_rfl) <| SW.R 1 [(3, Z0 p0), (4, Z1 p1), (5, Z1 p2)] <| SW.seq <| SW.S <| OWk.G 5 [(3, Z0 p0), (4, Z1 p1), (5, Z1 p2), (8, Z2 p0), (10, Z83 p1), (12, Z83 p2)] ?_
  obtain ⟨r1, hr, h⟩ := bind_inv h
  refine OWk.C0 (some 13) [(3, Z0 p0), (4, Z1 p1), (5, Z1 p2), (13, vI r1)] (r_Order_ok hr) <| OWk.G 1 [(3, Z0 p0), (4, Z1 p1), (5, Z1 p2), (7, vI r1)] <| OWk.E <| SW.R 1 [(3, Z0 p0), (4, Z1 p1), (5, Z1 p2), (7, vI r1), (15, vB (r1 != 0))] ?_
  refine SW.B (r1 != 0) (fun hc => ?_) (fun hc => ?_)
  · replace h := bif_t hc h
    refine SW.R 1 [(6, vB (decide (r1 < 0)))] <| SW.ret <| thenS_r ?_
    cases h
    exact EndQ.ret [] (by kernel_rfl) rfl
  · replace h := bif_f hc h
    refine SW.skip <| thenS_n <| SW.seq <| SW.R 1 [(4, Z1 p1), (5, Z1 p2), (20, vB (p0.Dup == 2))] ?_
    refine SW.B (p0.Dup == 2) (fun hc => ?_) (fun hc => ?_)
    · replace h := bif_t hc h
      refine SW.R 1 [(6, Z182 p1 p2)] <| SW.ret <| thenS_r ?_
      cases h
      exact EndQ.ret [] (by kernel_rfl) rfl
    · replace h := bif_f hc h
      refine SW.skip <| thenS_n <| SW.R 1 [(6, Z183 p1 p2)] <| SW.ret ?_
      cases h
      exact EndQ.ret [] (by kernel_rfl) rfl
def r_Less (fuel : Nat) (p0 : Sorting) (p1 : Entry) (p2 : Entry) : Option (Bool × Int) :=
  (r_Valid fuel p0).bind fun r1 =>
  bif (!r1) then
    some (false, 1)
  else
    (r_entry fuel p0 p1).bind fun r2 =>
    bif (!r2) then
      some (false, 1)
    else
      (r_entry fuel p0 p2).bind fun r3 =>
      bif (!r3) then
        some (false, 1)
      else
        (r_Before fuel p0 p1 p2).bind fun r4 =>
        some (r4, 0)
theorem r_Less_ok {fuel : Nat} {p0 : Sorting} {p1 : Entry} {p2 : Entry} {r : Bool × Int} (h : r_Less fuel p0 p1 p2 = some r) : PC Try.prog 9 [.d (encSorting p0), .d (encEntry p1), .d (encEntry p2)] (.tup [vB r.1, vI r.2]) := by
  refine PC.of_SW Try.func9 rfl fun H => ?_
  unfold r_Less at h
  refine SW.kp 27 H [0, 1, 2] [(0, Z2 p0), (1, Z76 p1), (2, Z76 p2)] (by kernel_rfl) <| SW.R 1 [(3, Z0 p0), (4, Z1 p1), (5, Z1 p2)] <| SW.seq <| SW.S <| OWk.G 1 [(3, Z0 p0), (4, Z1 p1), (5, Z1 p2), (8, Z2 p0)] ?_
  obtain ⟨r1, hr, h⟩ := bind_inv h
  refine OWk.C0 (some 9) [(3, Z0 p0), (4, Z1 p1), (5, Z1 p2), (9, vB r1)] (r_Valid_ok hr) <| OWk.G 2 [(3, Z0 p0), (4, Z1 p1), (5, Z1 p2), (11, vB (!r1))] ?_
  refine OWk.case (!r1) (fun b => (sp 27 [(3, Z0 p0), (4, Z1 p1), (5, Z1 p2), (11, vB b)] H)) (by kernel_rfl) (fun hc => ?_) (fun hc => ?_)
  · replace h := bif_t hc h
    refine OWk.G 11 [(3, Z0 p0), (4, Z1 p1), (5, Z1 p2), (22, vB true)] <| OWk.E <| SW.condT (by kernel_rfl) <| SW.R 1 [(6, vB false), (7, vI 1)] <| SW.ret <| thenS_r ?_
    cases h
    exact EndQ.ret [] (by kernel_rfl) rfl
  · replace h := bif_f hc h
    refine OWk.G 2 [(3, Z0 p0), (4, Z1 p1), (5, Z1 p2), (11, vB false), (12, Z2 p0), (13, Z76 p1)] ?_
    obtain ⟨r2, hr, h⟩ := bind_inv h
    refine OWk.C0 (some 14) [(3, Z0 p0), (4, Z1 p1), (5, Z1 p2), (11, vB false), (14, vB r2)] (r_entry_ok hr) <| OWk.G 3 [(3, Z0 p0), (4, Z1 p1), (5, Z1 p2), (17, vB (!r2))] ?_
    refine OWk.case (!r2) (fun b => (sp 27 [(3, Z0 p0), (4, Z1 p1), (5, Z1 p2), (17, vB b)] H)) (by kernel_rfl) (fun hc => ?_) (fun hc => ?_)
    · replace h := bif_t hc h
      refine OWk.G 5 [(3, Z0 p0), (4, Z1 p1), (5, Z1 p2), (22, vB true)] <| OWk.E <| SW.condT (by kernel_rfl) <| SW.R 1 [(6, vB false), (7, vI 1)] <| SW.ret <| thenS_r ?_
      cases h
      exact EndQ.ret [] (by kernel_rfl) rfl
    · replace h := bif_f hc h
      refine OWk.G 2 [(3, Z0 p0), (4, Z1 p1), (5, Z1 p2), (17, vB false), (18, Z2 p0), (19, Z76 p2)] ?_
      obtain ⟨r3, hr, h⟩ := bind_inv h
      refine OWk.C0 (some 20) [(3, Z0 p0), (4, Z1 p1), (5, Z1 p2), (17, vB false), (20, vB r3)] (r_entry_ok hr) <| OWk.G 2 [(3, Z0 p0), (4, Z1 p1), (5, Z1 p2), (22, vB (!r3))] <| OWk.E ?_
      refine SW.B (!r3) (fun hc => ?_) (fun hc => ?_)
      · replace h := bif_t hc h
        refine SW.R 1 [(6, vB false), (7, vI 1)] <| SW.ret <| thenS_r ?_
        cases h
        exact EndQ.ret [] (by kernel_rfl) rfl
      · replace h := bif_f hc h
        refine SW.skip <| thenS_n <| SW.S <| OWk.G 3 [(23, Z2 p0), (24, Z76 p1), (25, Z76 p2)] ?_
        obtain ⟨r4, hr, h⟩ := bind_inv h
        refine OWk.C0 (some 26) [(26, vB r4)] (r_Before_ok hr) <| OWk.G 2 [(6, vB r4), (7, vI 0)] <| OWk.E <| SW.ret ?_
        cases h
        exact EndQ.ret [] (by kernel_rfl) rfl
def l_TreeLess (fuel : Nat) (p0 : Sorting) (p1 : Entry) (p2 : Entry) (p3 : Entry) : Option (Bool) :=
  letJ (fun (j1 : Bool) =>
    bif j1 then
      (l_awake fuel).bind fun r5 =>
      some r5
    else
      (t_Less fuel p0 p1 p2).bind fun r6 =>
      (r_Less fuel p0 p1 p2).bind fun r7 =>
      letJ (fun (j8 : Bool) =>
        bif j8 then
          some false
        else
          (t_Less fuel p0 p2 p1).bind fun r12 =>
          (t_Less fuel p0 p2 p3).bind fun r13 =>
          (t_Less fuel p0 p1 p3).bind fun r14 =>
          bif (((r6.2 != 0) || (r13.2 != 0)) || (r14.2 != 0)) then
            (l_awake fuel).bind fun r15 =>
            some r15
          else
            bif (!(r6.1 && r12.1)) then
              bif (!r6.1) then
                (l_awake fuel).bind fun r16 =>
                some r16
              else
                bif (!r13.1) then
                  (l_awake fuel).bind fun r17 =>
                  some r17
                else
                  bif r14.1 then
                    (l_awake fuel).bind fun r18 =>
                    some r18
                  else
                    some false
            else
              some false) fun jp9 =>
      bif ((!(r6.1 == r7.1)) || (r6.2 != r7.2)) then
        jp9 true
      else
        (t_Valid fuel p0).bind fun r10 =>
        (r_Valid fuel p0).bind fun r11 =>
        jp9 (!(r10 == r11))) fun jp2 =>
  (l_Acts fuel p0 []).bind fun r3 =>
  bif (!r3) then
    jp2 true
  else
    (l01_Rows fuel [p1.Row, p2.Row, p3.Row]).bind fun r4 =>
    jp2 (!r4)
def Z184 (x0 : Bool × Int) (x1 : Bool × Int) : SV := vB ((!(x0.1 == x1.1)) || (x0.2 != x1.2))
def Z185 (x0 : Bool × Int) (x1 : Bool × Int) : SV := vB ((x0.2 != 0) || (x1.2 != 0))
theorem l_TreeLess_ok {fuel : Nat} {p0 : Sorting} {p1 : Entry} {p2 : Entry} {p3 : Entry} {r : Bool} (h : l_TreeLess fuel p0 p1 p2 p3 = some r) : PC Try.prog 3 [.d (encSorting p0), .d (encEntry p1), .d (encEntry p2), .d (encEntry p3)] (vB r) := by
  refine PC.of_SW Try.func3 rfl fun H => ?_
  unfold l_TreeLess at h
  refine SW.kp 113 H [0, 1, 2, 3] [(0, Z2 p0), (1, Z76 p1), (2, Z76 p2), (3, Z76 p3)] (by kernel_rfl) <| SW.R 1 [(4, Z0 p0), (5, Z1 p1), (6, Z1 p2), (7, Z1 p3)] <| SW.seq ?_
  obtain ⟨jp2, hjjp2, h⟩ := letJ_inv h
  refine SW.jn 113 H [4, 5, 6, 7, 31] (fun (j1 : Bool) => [(4, Z0 p0), (5, Z1 p1), (6, Z1 p2), (7, Z1 p3), (31, vB j1)]) (fun v => jp2 v = some r) (fun j1 h => ?_) ?_
  · rw [hjjp2] at h
    refine SW.B j1 (fun hc => ?_) (fun hc => ?_)
    · replace h := bif_t hc h
      refine SW.S ?_
      obtain ⟨r5, hr, h⟩ := bind_inv h
      refine OWk.C0 (some 32) [(32, vB r5)] (l_awake_ok hr) <| OWk.G 1 [(8, vB r5)] <| OWk.E <| SW.ret <| thenS_r ?_
      cases h
      exact EndQ.ret [] (by kernel_rfl) rfl
    · replace h := bif_f hc h
      refine SW.skip <| thenS_n <| SW.S <| OWk.G 3 [(4, Z0 p0), (5, Z1 p1), (6, Z1 p2), (7, Z1 p3), (34, Z2 p0), (35, Z76 p1), (36, Z76 p2)] ?_
      obtain ⟨r6, hr, h⟩ := bind_inv h
      refine OWk.C0 (some 37) [(4, Z0 p0), (5, Z1 p1), (6, Z1 p2), (7, Z1 p3), (37, .tup [vB r6.1, vI r6.2])] (t_Less_ok hr) <| OWk.G 5 [(4, Z0 p0), (5, Z1 p1), (6, Z1 p2), (7, Z1 p3), (9, vB r6.1), (10, vI r6.2)] <| OWk.E <| SW.S <| OWk.G 3 [(4, Z0 p0), (5, Z1 p1), (6, Z1 p2), (7, Z1 p3), (9, vB r6.1), (10, vI r6.2), (41, Z2 p0), (42, Z76 p1), (43, Z76 p2)] ?_
      obtain ⟨r7, hr, h⟩ := bind_inv h
      refine OWk.C0 (some 44) [(4, Z0 p0), (5, Z1 p1), (6, Z1 p2), (7, Z1 p3), (9, vB r6.1), (10, vI r6.2), (44, .tup [vB r7.1, vI r7.2])] (r_Less_ok hr) <| OWk.G 5 [(4, Z0 p0), (5, Z1 p1), (6, Z1 p2), (7, Z1 p3), (9, vB r6.1), (10, vI r6.2), (11, vB r7.1), (12, vI r7.2)] <| OWk.E <| SW.seq ?_
      obtain ⟨jp9, hjjp9, h⟩ := letJ_inv h
      refine SW.jn 113 H [4, 5, 6, 7, 9, 10, 61] (fun (j8 : Bool) => [(4, Z0 p0), (5, Z1 p1), (6, Z1 p2), (7, Z1 p3), (9, vB r6.1), (10, vI r6.2), (61, vB j8)]) (fun v => jp9 v = some r) (fun j8 h => ?_) ?_
      · rw [hjjp9] at h
        refine SW.B j8 (fun hc => ?_) (fun hc => ?_)
        · replace h := bif_t hc h
          refine SW.R 1 [(8, vB false)] <| SW.ret <| thenS_r ?_
          cases h
          exact EndQ.ret [] (by kernel_rfl) rfl
        · replace h := bif_f hc h
          refine SW.skip <| thenS_n <| SW.S <| OWk.G 3 [(4, Z0 p0), (5, Z1 p1), (6, Z1 p2), (7, Z1 p3), (9, vB r6.1), (10, vI r6.2), (63, Z2 p0), (64, Z76 p2), (65, Z76 p1)] ?_
          obtain ⟨r12, hr, h⟩ := bind_inv h
          refine OWk.C0 (some 66) [(4, Z0 p0), (5, Z1 p1), (6, Z1 p2), (7, Z1 p3), (9, vB r6.1), (10, vI r6.2), (66, .tup [vB r12.1, vI r12.2])] (t_Less_ok hr) <| OWk.G 5 [(4, Z0 p0), (5, Z1 p1), (6, Z1 p2), (7, Z1 p3), (9, vB r6.1), (10, vI r6.2), (13, vB r12.1)] <| OWk.E <| SW.S <| OWk.G 3 [(4, Z0 p0), (5, Z1 p1), (7, Z1 p3), (9, vB r6.1), (10, vI r6.2), (13, vB r12.1), (70, Z2 p0), (71, Z76 p2), (72, Z76 p3)] ?_
          obtain ⟨r13, hr, h⟩ := bind_inv h
          refine OWk.C0 (some 73) [(4, Z0 p0), (5, Z1 p1), (7, Z1 p3), (9, vB r6.1), (10, vI r6.2), (13, vB r12.1), (73, .tup [vB r13.1, vI r13.2])] (t_Less_ok hr) <| OWk.G 5 [(4, Z0 p0), (5, Z1 p1), (7, Z1 p3), (9, vB r6.1), (10, vI r6.2), (12, vI r13.2), (13, vB r12.1), (15, vB r13.1)] <| OWk.E <| SW.S <| OWk.G 3 [(9, vB r6.1), (10, vI r6.2), (12, vI r13.2), (13, vB r12.1), (15, vB r13.1), (77, Z2 p0), (78, Z76 p1), (79, Z76 p3)] ?_
          obtain ⟨r14, hr, h⟩ := bind_inv h
          refine OWk.C0 (some 80) [(9, vB r6.1), (10, vI r6.2), (12, vI r13.2), (13, vB r12.1), (15, vB r13.1), (80, .tup [vB r14.1, vI r14.2])] (t_Less_ok hr) <| OWk.G 5 [(9, vB r6.1), (10, vI r6.2), (12, vI r13.2), (13, vB r12.1), (15, vB r13.1), (16, vB r14.1), (17, vI r14.2)] <| OWk.E <| SW.seq <| SW.S <| OWk.G 3 [(9, vB r6.1), (12, vI r13.2), (13, vB r12.1), (15, vB r13.1), (16, vB r14.1), (17, vI r14.2), (85, vB (r6.2 != 0))] <| OWk.M 3 (r6.2 != 0) (fun b => [(9, vB r6.1), (12, vI r13.2), (13, vB r12.1), (15, vB r13.1), (16, vB r14.1), (17, vI r14.2), (85, vB b)]) (fun b => [(9, vB r6.1), (13, vB r12.1), (15, vB r13.1), (16, vB r14.1), (17, vI r14.2), (88, vB (b || (r13.2 != 0)))]) <| OWk.G 1 [(9, vB r6.1), (13, vB r12.1), (15, vB r13.1), (16, vB r14.1), (17, vI r14.2), (89, Z185 r6 r13)] <| OWk.M 3 ((r6.2 != 0) || (r13.2 != 0)) (fun b => [(9, vB r6.1), (13, vB r12.1), (15, vB r13.1), (16, vB r14.1), (17, vI r14.2), (89, vB b)]) (fun b => [(9, vB r6.1), (13, vB r12.1), (15, vB r13.1), (16, vB r14.1), (92, vB (b || (r14.2 != 0)))]) <| OWk.E ?_
          refine SW.B (((r6.2 != 0) || (r13.2 != 0)) || (r14.2 != 0)) (fun hc => ?_) (fun hc => ?_)
          · replace h := bif_t hc h
            refine SW.S ?_
            obtain ⟨r15, hr, h⟩ := bind_inv h
            refine OWk.C0 (some 93) [(93, vB r15)] (l_awake_ok hr) <| OWk.G 1 [(8, vB r15)] <| OWk.E <| SW.ret <| thenS_r ?_
            cases h
            exact EndQ.ret [] (by kernel_rfl) rfl
          · replace h := bif_f hc h
            refine SW.skip <| thenS_n <| SW.S <| OWk.G 2 [(9, vB r6.1), (13, vB r12.1), (15, vB r13.1), (16, vB r14.1), (95, vB r6.1)] <| OWk.M 2 r6.1 (fun b => [(9, vB r6.1), (13, vB r12.1), (15, vB r13.1), (16, vB r14.1), (95, vB b)]) (fun b => [(9, vB r6.1), (15, vB r13.1), (16, vB r14.1), (97, vB (b && r12.1))]) <| OWk.G 2 [(9, vB r6.1), (15, vB r13.1), (16, vB r14.1), (99, vB (!(r6.1 && r12.1)))] ?_
            refine OWk.case (!(r6.1 && r12.1)) (fun b => (sp 113 [(9, vB r6.1), (15, vB r13.1), (16, vB r14.1), (99, vB b)] H)) (by kernel_rfl) (fun hc => ?_) (fun hc => ?_)
            · replace h := bif_t hc h
              refine OWk.G 3 [(15, vB r13.1), (16, vB r14.1), (99, vB true), (102, vB (!r6.1))] ?_
              refine OWk.case (!r6.1) (fun b => (sp 113 [(15, vB r13.1), (16, vB r14.1), (99, vB true), (102, vB b)] H)) (by kernel_rfl) (fun hc => ?_) (fun hc => ?_)
              · replace h := bif_t hc h
                refine OWk.G 8 [(110, vB true)] ?_
                obtain ⟨r16, hr, h⟩ := bind_inv h
                refine OWk.C0 (some 111) [(110, vB true), (111, vB r16)] (l_awake_ok hr) <| OWk.G 2 [(8, vB r16)] <| OWk.E <| SW.ret ?_
                cases h
                exact EndQ.ret [] (by kernel_rfl) rfl
              · replace h := bif_f hc h
                refine OWk.G 4 [(16, vB r14.1), (99, vB true), (106, vB (!r13.1))] ?_
                refine OWk.case (!r13.1) (fun b => (sp 113 [(16, vB r14.1), (99, vB true), (106, vB b)] H)) (by kernel_rfl) (fun hc => ?_) (fun hc => ?_)
                · replace h := bif_t hc h
                  refine OWk.G 4 [(110, vB true)] ?_
                  obtain ⟨r17, hr, h⟩ := bind_inv h
                  refine OWk.C0 (some 111) [(110, vB true), (111, vB r17)] (l_awake_ok hr) <| OWk.G 2 [(8, vB r17)] <| OWk.E <| SW.ret ?_
                  cases h
                  exact EndQ.ret [] (by kernel_rfl) rfl
                · replace h := bif_f hc h
                  refine OWk.G 4 [(110, vB r14.1)] ?_
                  refine OWk.case r14.1 (fun b => (sp 113 [(110, vB b)] H)) (by kernel_rfl) (fun hc => ?_) (fun hc => ?_)
                  · replace h := bif_t hc h
                    obtain ⟨r18, hr, h⟩ := bind_inv h
                    refine OWk.C0 (some 111) [(110, vB true), (111, vB r18)] (l_awake_ok hr) <| OWk.G 2 [(8, vB r18)] <| OWk.E <| SW.ret ?_
                    cases h
                    exact EndQ.ret [] (by kernel_rfl) rfl
                  · replace h := bif_f hc h
                    refine OWk.G 3 [(8, vB false)] <| OWk.E <| SW.ret ?_
                    cases h
                    exact EndQ.ret [] (by kernel_rfl) rfl
            · replace h := bif_f hc h
              refine OWk.G 14 [(8, vB false)] <| OWk.E <| SW.ret ?_
              cases h
              exact EndQ.ret [] (by kernel_rfl) rfl
      · refine SW.regionQ (by kernel_rfl) (by kernel_rfl) <| OQk.G 4 [(4, Z0 p0), (5, Z1 p1), (6, Z1 p2), (7, Z1 p3), (9, vB r6.1), (10, vI r6.2), (12, vI r7.2), (50, vB (!(r6.1 == r7.1)))] <| OQk.mg 113 H [4, 5, 6, 7, 9, 10, 54] 4 (!(r6.1 == r7.1)) (fun b => (sp 113 [(4, Z0 p0), (5, Z1 p1), (6, Z1 p2), (7, Z1 p3), (9, vB r6.1), (10, vI r6.2), (12, vI r7.2), (50, vB b)] H)) (fun b => [(4, Z0 p0), (5, Z1 p1), (6, Z1 p2), (7, Z1 p3), (9, vB r6.1), (10, vI r6.2), (54, vB (b || (r6.2 != r7.2)))]) (by kernel_rfl) (by kernel_rfl) (by kernel_rfl) <| OQk.G 1 [(4, Z0 p0), (5, Z1 p1), (6, Z1 p2), (7, Z1 p3), (9, vB r6.1), (10, vI r6.2), (55, Z184 r6 r7)] ?_
        refine OQk.case ((!(r6.1 == r7.1)) || (r6.2 != r7.2)) (fun b => (sp 113 [(4, Z0 p0), (5, Z1 p1), (6, Z1 p2), (7, Z1 p3), (9, vB r6.1), (10, vI r6.2), (55, vB b)] H)) (by kernel_rfl) (fun hc => ?_) (fun hc => ?_)
        · replace h := bif_t hc h
          refine OQk.G 6 [(4, Z0 p0), (5, Z1 p1), (6, Z1 p2), (7, Z1 p3), (9, vB r6.1), (10, vI r6.2), (61, vB true)] <| OQk.done (by kernel_rfl) ?_
          exact ⟨true, [], by kernel_rfl, h⟩
        · replace h := bif_f hc h
          refine OQk.G 1 [(4, Z0 p0), (5, Z1 p1), (6, Z1 p2), (7, Z1 p3), (9, vB r6.1), (10, vI r6.2), (55, vB false), (56, Z2 p0)] ?_
          obtain ⟨r10, hr, h⟩ := bind_inv h
          refine OQk.cl 113 H (d := some 57) (ls := []) [4, 5, 6, 7, 9, 10, 55, 57] [(4, Z0 p0), (5, Z1 p1), (6, Z1 p2), (7, Z1 p3), (9, vB r6.1), (10, vI r6.2), (55, vB false), (57, vB r10)] (t_Valid_ok hr) (by kernel_rfl) (by kernel_rfl) (by kernel_rfl) <| OQk.G 1 [(4, Z0 p0), (5, Z1 p1), (6, Z1 p2), (7, Z1 p3), (9, vB r6.1), (10, vI r6.2), (55, vB false), (57, vB r10), (58, Z2 p0)] ?_
          obtain ⟨r11, hr, h⟩ := bind_inv h
          refine OQk.cl 113 H (d := some 59) (ls := []) [4, 5, 6, 7, 9, 10, 55, 57, 59] [(4, Z0 p0), (5, Z1 p1), (6, Z1 p2), (7, Z1 p3), (9, vB r6.1), (10, vI r6.2), (55, vB false), (57, vB r10), (59, vB r11)] (r_Valid_ok hr) (by kernel_rfl) (by kernel_rfl) (by kernel_rfl) <| OQk.G 2 [(4, Z0 p0), (5, Z1 p1), (6, Z1 p2), (7, Z1 p3), (9, vB r6.1), (10, vI r6.2), (61, vB (!(r10 == r11)))] <| OQk.done (by kernel_rfl) ?_
          exact ⟨(!(r10 == r11)), [], by kernel_rfl, h⟩
  · refine SW.regionK <| OWk.G 1 [(4, Z0 p0), (5, Z1 p1), (6, Z1 p2), (7, Z1 p3), (18, Z2 p0)] ?_
    obtain ⟨r3, hr, h⟩ := bind_inv h
    refine OWk.C0 (some 19) [(4, Z0 p0), (5, Z1 p1), (6, Z1 p2), (7, Z1 p3), (19, vB r3)] (l_Acts_ok hr) <| OWk.G 2 [(4, Z0 p0), (5, Z1 p1), (6, Z1 p2), (7, Z1 p3), (21, vB (!r3))] ?_
    refine OWk.case (!r3) (fun b => (sp 113 [(4, Z0 p0), (5, Z1 p1), (6, Z1 p2), (7, Z1 p3), (21, vB b)] H)) (by kernel_rfl) (fun hc => ?_) (fun hc => ?_)
    · replace h := bif_t hc h
      refine OWk.G 10 [(4, Z0 p0), (5, Z1 p1), (6, Z1 p2), (7, Z1 p3), (31, vB true)] <| OWk.D ?_
      exact ⟨true, [], by kernel_rfl, h⟩
    · replace h := bif_f hc h
      refine OWk.G 7 [(4, Z0 p0), (5, Z1 p1), (6, Z1 p2), (7, Z1 p3), (21, vB false), (28, Z165 p1 p2 p3)] ?_
      obtain ⟨r4, hr, h⟩ := bind_inv h
      refine OWk.C (d := some 29) (ls := [(.slot 28)]) (gs := []) [] [(4, Z0 p0), (5, Z1 p1), (6, Z1 p2), (7, Z1 p3), (21, vB false), (29, vB r4)] (l01_Rows_ok hr) <| OWk.G 2 [(4, Z0 p0), (5, Z1 p1), (6, Z1 p2), (7, Z1 p3), (31, vB (!r4))] <| OWk.D ?_
      exact ⟨(!r4), [], by kernel_rfl, h⟩
end Go.Sh
