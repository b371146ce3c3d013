/- Printed by a program: functions of the program as plain functions, and that the code computes them. -/
import Derived.Test.YtmhiemakdfkmeaaS3
import Derived.Test.YtmhiemakdfkmeaaProg
import Derived.Lib.Strings
import Derived.Lib.Slices
import Derived.Lib.Walk
import Derived.Lib.Bytealg
set_option linter.all false
set_option autoImplicit true
set_option relaxedAutoImplicit true
open Go Go.Proofs
namespace Go.Sh
set_option maxRecDepth 100000
abbrev SL := List (Nat × SV)
structure ah where
 aq : (List Int)
 Down : (List Bool)
 Dup : Int
 deriving DecidableEq, Inhabited
def bo (x : ah) : D := .agg [.list 1 (List.map (D.int .i64) x.aq), .list 1 (List.map D.bool x.Down), .int .i64 x.Dup]
structure Value where
 Kind : Int
 N : Int
 S : (List UInt8)
 deriving DecidableEq, Inhabited
def ag (x : Value) : D := .agg [.int .i64 x.Kind, .int .i64 x.N, .str x.S]
structure Entry where
 Row : (List Value)
 Key : Int
 Number : Int
 deriving DecidableEq, Inhabited
def ab (x : Entry) : D := .agg [.list 3 (List.map ag x.Row), .int .i64 x.Key, .int .i64 x.Number]
structure Node where
 Level : Int
 Entries : (List Entry)
 Kids : (List Int)
 deriving DecidableEq, Inhabited
def aI (x : Node) : D := .agg [.int .i64 x.Level, .list 3 (List.map ab x.Entries), .list 1 (List.map (D.int .i64) x.Kids)]
def nQ (xs : List Value) : D := D.list 3 (List.map ag xs)
def gG (fuel : Nat) (p0 : (List (List Value))) (y1 : Int) (y3 : Int) : Option ((Int) ⊕ ((Unit) ⊕ ((Bool)))) :=
 (idx p0 y1).bind fun x4 =>
 bif (decide (y3 < (x4.length : Int))) then
  (idx p0 y1).bind fun x5 =>
  (idx x5 y3).bind fun x6 =>
  bif (decide ((x6.S.length : Int) > 200)) then
   some (.inr (.inr false))
  else
   some (.inl (IntKind.wrap .i64 (y3 + 1)))
 else
  some (.inr (.inl ()))
def gF (fuel : Nat) (p0 : (List (List Value))) (y1 : Int) : Option ((Int) ⊕ ((Unit) ⊕ ((Bool)))) :=
 bif (decide (y1 < (p0.length : Int))) then
  (idx p0 y1).bind fun x2 =>
  bif (decide ((x2.length : Int) > 20)) then
   some (.inr (.inr false))
  else
   (iter (gG fuel p0 y1) fuel 0).bind (Sum.elim (fun v8 =>
    some (.inl (IntKind.wrap .i64 (y1 + 1)))) (fun r9 =>
    some (.inr (.inr r9))))
 else
  some (.inr (.inl ()))
def ie (fuel : Nat) (p0 : (List (List Value))) : Option (Bool) :=
 (iter (gF fuel p0) fuel 0).bind (Sum.elim (fun v11 =>
  some true) (fun r12 =>
  some r12))
def Z0 (x0 : (List Node)) : SV := .d (.list 3 (List.map aI x0))
def Z1 (x0 : ah) : SV := .box [.d (.list 1 (List.map (D.int .i64) x0.aq)), .d (.list 1 (List.map D.bool x0.Down)), vI x0.Dup]
def Z3 (x0 : Node) : SV := .d (.list 3 (List.map ab x0.Entries))
def Z5 (x0 : Node) : SV := .d (.list 1 (List.map (D.int .i64) x0.Kids))
def Z7 (x0 : Node) : SV := vI (x0.Kids.length : Int)
def Z8 (x0 : Node) : SV := vI (x0.Entries.length : Int)
def Z10 (x0 : Entry) : SV := .own 1 (List.map nQ [x0.Row])
def Z11 (x0 : (List (List Value))) : SV := .d (.list 1 (List.map nQ x0))
def Z13 (x0 : (List Value)) : SV := .d (.list 3 (List.map ag x0))
def Z14 (x0 : (List Value)) : SV := vB (decide ((x0.length : Int) > 20))
def Z16 (x0 : Value) : SV := vB (decide ((x0.S.length : Int) > 200))
def Z17 (x0 : Int) (x1 : (List Value)) : SV := vB (decide (x0 < (x1.length : Int)))
def Z18 (x0 : Int) : SV := vI (IntKind.wrap .i64 (x0 + 1))
def Z19 (x0 : Int) (x1 : (List (List Value))) : SV := vB (decide (x0 < (x1.length : Int)))
def K48 := fun a0 a1 (t : SL) => ((0, Z11 a0) :: (3, vI a1) :: t : SL)
theorem nN {fuel : Nat} {p0 : (List (List Value))} {r : Bool} (h : ie fuel p0 = some r) : PC Try.prog 6 [.d (.list 1 (List.map nQ p0))] (vB r) := by
 refine PC.br Try.func6 rfl fun H => ?_
 unfold ie at h
 refine SW.kp 36 H [0] [(0, Z11 p0)] (by kernel_rfl) <| SW.R 1 [(0, Z11 p0)] <| SW.seq <| SW.R 1 [(0, Z11 p0), (3, vI 0)] <| SW.block ?_
 obtain ⟨z10, hit, h⟩ := aa h
 refine SW.it 36 H [0, 3] (fun y1 => (K48 p0 y1 [])) (fun b e s => ((∃ v11, b = (.inl v11) ∧ (e = .exit 0 ∧ s = (sp 36 [] H))) ∨ (∃ r12, b = (.inr r12) ∧ (e = .ret ∧ aA Try.prog Try.f6.results.toList H (vB r12) .ret s)))) hit (by kernel_rfl) (fun y1 o h => ?_) ?_
 ·unfold gF at h
  refine SW.seq <| SW.S <| OWk.G 2 (K48 p0 y1 [(5, vI y1), (6, Z11 p0)]) <| OWk.O (d := some 7) (K48 p0 y1 [(5, vI y1), (7, vI (p0.length : Int))]) (BAt.len (enc := nQ) (xs := p0) (by kernel_rfl)) <| OWk.G 1 (K48 p0 y1 [(8, Z19 y1 p0)]) <| OWk.E ?_
  refine SW.B (decide (y1 < (p0.length : Int))) (fun hc => ?_) (fun hc => ?_)
  ·replace h := an hc h
   refine SW.skip <| ad <| SW.seq <| SW.block <| SW.seq <| SW.S <| OWk.G 2 (K48 p0 y1 [(11, Z11 p0), (12, vI y1)]) ?_
   obtain ⟨x2, hx, h⟩ := aa h
   refine OWk.O (d := some 13) (s := aO none (Go.Sh.D.cells (nQ x2))) (K48 p0 y1 [(13, .d (.aR [.list 3 (List.map ag x2)]))]) (BAt.index (n := 1) hx (by kernel_rfl)) <| OWk.G 1 (K48 p0 y1 [(14, Z13 x2)]) <| OWk.O (d := some 15) (K48 p0 y1 [(15, vI (x2.length : Int))]) (BAt.len (enc := ag) (xs := x2) (by kernel_rfl)) <| OWk.G 1 (K48 p0 y1 [(16, Z14 x2)]) <| OWk.E ?_
   refine SW.B (decide ((x2.length : Int) > 20)) (fun hc => ?_) (fun hc => ?_)
   ·replace h := an hc h
    refine SW.R 1 [(2, vB false)] <| SW.ret <| af <| ax <| af ?_
    cases h
    refine af ?_
    exact ⟨_, rfl, .inr (⟨false, rfl, rfl, aA.ret [] (by kernel_rfl) rfl⟩)⟩
   ·replace h := ao hc h
    refine SW.skip <| ad <| SW.R 1 (K48 p0 y1 [(4, vI 0)]) <| SW.block ?_
    obtain ⟨z7, hit, h⟩ := aa h
    refine SW.it 36 H [0, 3, 4] (fun y3 => (K48 p0 y1 [(4, vI y3)])) (fun b e s => ((∃ v8, b = (.inl v8) ∧ (e = .exit 2 ∧ s = (sp 36 (K48 p0 y1 []) H))) ∨ (∃ r9, b = (.inr r9) ∧ (e = .ret ∧ aA Try.prog Try.f6.results.toList H (vB r9) .ret s)))) hit (by kernel_rfl) (fun y3 o h => ?_) ?_
    ·unfold gG at h
     refine SW.seq <| SW.S <| OWk.G 3 (K48 p0 y1 [(4, vI y3), (17, vI y3), (18, Z11 p0), (19, vI y1)]) ?_
     obtain ⟨x4, hx, h⟩ := aa h
     refine OWk.O (d := some 20) (s := aO none (Go.Sh.D.cells (nQ x4))) (K48 p0 y1 [(4, vI y3), (17, vI y3), (20, .d (.aR [.list 3 (List.map ag x4)]))]) (BAt.index (n := 1) hx (by kernel_rfl)) <| OWk.G 1 (K48 p0 y1 [(4, vI y3), (17, vI y3), (21, Z13 x4)]) <| OWk.O (d := some 22) (K48 p0 y1 [(4, vI y3), (17, vI y3), (22, vI (x4.length : Int))]) (BAt.len (enc := ag) (xs := x4) (by kernel_rfl)) <| OWk.G 1 (K48 p0 y1 [(4, vI y3), (23, Z17 y3 x4)]) <| OWk.E ?_
     refine SW.B (decide (y3 < (x4.length : Int))) (fun hc => ?_) (fun hc => ?_)
     ·replace h := an hc h
      refine SW.skip <| ad <| SW.seq <| SW.block <| SW.S <| OWk.G 2 (K48 p0 y1 [(4, vI y3), (26, Z11 p0), (27, vI y1)]) ?_
      obtain ⟨x5, hx, h⟩ := aa h
      refine OWk.O (d := some 28) (s := aO none (Go.Sh.D.cells (nQ x5))) (K48 p0 y1 [(4, vI y3), (28, .d (.aR [.list 3 (List.map ag x5)]))]) (BAt.index (n := 1) hx (by kernel_rfl)) <| OWk.G 2 (K48 p0 y1 [(4, vI y3), (29, Z13 x5), (30, vI y3)]) ?_
      obtain ⟨x6, hx, h⟩ := aa h
      refine OWk.O (d := some 31) (s := aO none (Go.Sh.D.cells (ag x6))) (K48 p0 y1 [(4, vI y3), (31, .d (.aR [.int .i64 x6.Kind, .int .i64 x6.N, .str x6.S]))]) (BAt.index (n := 3) hx (by kernel_rfl)) <| OWk.G 2 (K48 p0 y1 [(4, vI y3), (33, vS x6.S)]) <| OWk.G 1 (K48 p0 y1 [(4, vI y3), (34, vI (x6.S.length : Int))]) <| OWk.G 1 (K48 p0 y1 [(4, vI y3), (35, Z16 x6)]) <| OWk.E ?_
      refine SW.B (decide ((x6.S.length : Int) > 200)) (fun hc => ?_) (fun hc => ?_)
      ·replace h := an hc h
       refine SW.R 1 [(2, vB false)] <| SW.ret <| ax <| af ?_
       cases h
       refine af ?_
       exact ⟨_, rfl, .inr (⟨false, rfl, rfl, aA.ret [] (by kernel_rfl) rfl⟩)⟩
      ·replace h := ao hc h
       refine SW.skip <| aH <| ad <| SW.au <| OWk.G 3 (K48 p0 y1 [(4, Z18 y3)]) <| OWk.D ?_
       cases h
       exact ⟨(IntKind.wrap .i64 (y3 + 1)), rfl, by kernel_rfl⟩
     ·replace h := ao hc h
      refine SW.K (K48 p0 y1 []) <| SW.exit <| aJ ?_
      cases h
      refine aJ ?_
      exact ⟨_, rfl, .inl ⟨(), rfl, rfl, rfl⟩⟩
    ·rintro _ _ (⟨v8, rfl, rfl, rfl⟩ | ⟨r9, rfl, rfl, hE⟩)
     ·replace h := dO h
      refine aT <| aH <| ad <| SW.au <| OWk.G 3 [(0, Z11 p0), (3, Z18 y1)] <| OWk.D ?_
      cases h
      exact ⟨(IntKind.wrap .i64 (y1 + 1)), rfl, by kernel_rfl⟩
     ·replace h := dN h
      refine ax <| ax <| af ?_
      cases h
      refine af ?_
      exact ⟨_, rfl, .inr (⟨r9, rfl, rfl, hE⟩)⟩
  ·replace h := ao hc h
   refine SW.K [] <| SW.exit <| aJ ?_
   cases h
   refine aJ ?_
   exact ⟨_, rfl, .inl ⟨(), rfl, rfl, rfl⟩⟩
 ·rintro _ _ (⟨v11, rfl, rfl, rfl⟩ | ⟨r12, rfl, rfl, hE⟩)
  ·replace h := dO h
   refine aT <| ad <| SW.R 1 [(2, vB true)] <| SW.ret ?_
   cases h
   exact aA.ret [] (by kernel_rfl) rfl
  ·replace h := dN h
   refine ax <| af ?_
   cases h
   exact hE
def ug (fuel : Nat) (p0 : Int) : Option (Bool) :=
 some ((p0 == 1) || (p0 == 2))
def Z20 : SV := .own 1 (List.map (D.int .i64) [1])
def Z21 : SV := .own 1 (List.map D.bool [false])
def Z22 : SV := .d (.agg [.list 1 (List.map (D.int .i64) [1]), .list 1 (List.map D.bool [false]), .int .i64 2])
def Z23 (x0 : ah) : SV := .d (.agg [.list 1 (List.map (D.int .i64) x0.aq), .list 1 (List.map D.bool x0.Down), .int .i64 x0.Dup])
def Z24 (x0 : ah) : SV := .d (.list 1 (List.map (D.int .i64) x0.aq))
def Z25 (x0 : ah) : SV := vB (decide ((x0.aq.length : Int) ≥ 1))
def Z26 (x0 : ah) : SV := vB (decide ((x0.aq.length : Int) ≤ 8))
def Z27 (x0 : ah) : SV := .d (.list 1 (List.map D.bool x0.Down))
def Z28 (x0 : ah) : SV := vI (x0.Down.length : Int)
def Z29 (x0 : ah) : SV := vB ((x0.Down.length : Int) == (x0.aq.length : Int))
def Z30 (x0 : ah) : SV := vB (((x0.Down.length : Int) == (x0.aq.length : Int)) && (decide (x0.Dup ≥ 1)))
def Z31 (x0 : ah) : SV := vB ((((x0.Down.length : Int) == (x0.aq.length : Int)) && (decide (x0.Dup ≥ 1))) && (decide (x0.Dup ≤ 3)))
def Z32 (x0 : (List Int)) : SV := .d (.list 1 (List.map (D.int .i64) x0))
def Z33 : SV := .d (.fn (.func 26) [] [])
def Z35 (x0 : Int) : SV := vB ((x0 == 1) || (x0 == 2))
theorem wi {fuel : Nat} {p0 : Int} {r : Bool} (h : ug fuel p0 = some r) : PC Try.prog 27 [vI p0] (vB r) := by
 refine PC.br Try.func27 rfl fun H => ?_
 unfold ug at h
 refine SW.kp 9 H [0] [(0, vI p0)] (by kernel_rfl) <| SW.R 1 [(0, vI p0)] <| SW.S <| OWk.G 3 [(0, vI p0), (5, vB (p0 == 1))] <| OWk.M 3 (p0 == 1) (fun b => [(0, vI p0), (5, vB b)]) (fun b => [(8, vB (b || (p0 == 2)))]) <| OWk.G 1 [(2, Z35 p0)] <| OWk.E <| SW.ret ?_
 cases h
 exact aA.ret [] (by kernel_rfl) rfl
def kO (fuel : Nat) (p0 : Int) : Option (Bool) :=
 (ug fuel p0).bind fun r1 =>
 some (!r1)
theorem rB {fuel : Nat} {p0 : Int} {r : Bool} (h : kO fuel p0 = some r) : PC Try.prog 26 [vI p0] (vB r) := by
 refine PC.br Try.func26 rfl fun H => ?_
 unfold kO at h
 refine SW.kp 6 H [0] [(0, vI p0)] (by kernel_rfl) <| SW.R 1 [(0, vI p0)] <| SW.S <| OWk.G 1 [(3, vI p0)] ?_
 obtain ⟨r1, hr, h⟩ := aa h
 refine OWk.C0 (some 4) [(4, vB r1)] (wi hr) <| OWk.G 2 [(2, vB (!r1))] <| OWk.E <| SW.ret ?_
 cases h
 exact aA.ret [] (by kernel_rfl) rfl
def bm (fuel : Nat) (p0 : (List Int)) (y1 : Int) : Option ((Int) ⊕ ((Unit) ⊕ ((Int)))) :=
 bif (decide (y1 < (p0.length : Int))) then
  (idx p0 y1).bind fun x2 =>
  (kO fuel x2).bind fun r3 =>
  bif r3 then
   some (.inr (.inr y1))
  else
   some (.inl (IntKind.wrap .i64 (y1 + 1)))
 else
  some (.inr (.inl ()))
def bF (fuel : Nat) (p0 : (List Int)) : Option (Int) :=
 (iter (bm fuel p0) fuel 0).bind (Sum.elim (fun v5 =>
  some (-1)) (fun r6 =>
  some r6))
def Z36 (x0 : Int) (x1 : (List Int)) : SV := vB (decide (x0 < (x1.length : Int)))
def K71 := fun a0 (t : SL) => ((0, Z32 a0) :: (1, Z33) :: t : SL)
theorem fW {fuel : Nat} {p0 : (List Int)} {r : Int} (h : bF fuel p0 = some r) : PC Try.prog 50 [.d (.list 1 (List.map (D.int .i64) p0)), .d (.fn (.func 26) [] [])] (vI r) := by
 refine PC.br Try.func50 rfl fun H => ?_
 unfold bF at h
 refine SW.kp 19 H [0, 1] (K71 p0 []) (by kernel_rfl) <| SW.R 1 (K71 p0 []) <| SW.seq <| SW.S <| OWk.G 1 (K71 p0 [(6, Z32 p0)]) <| OWk.O (d := some 7) (K71 p0 [(7, vI (p0.length : Int))]) (BAt.len (enc := (D.int .i64)) (xs := p0) (by kernel_rfl)) <| OWk.G 1 (K71 p0 [(7, vI (p0.length : Int)), (8, vI 0)]) <| OWk.E <| SW.block ?_
 obtain ⟨z4, hit, h⟩ := aa h
 refine SW.it 19 H [0, 1, 7, 8] (fun y1 => (K71 p0 [(7, vI (p0.length : Int)), (8, vI y1)])) (fun b e s => ((∃ v5, b = (.inl v5) ∧ (e = .exit 0 ∧ s = (sp 19 [] H))) ∨ (∃ r6, b = (.inr r6) ∧ (e = .ret ∧ aA Try.prog Try.f50.results.toList H (vI r6) .ret s)))) hit (by kernel_rfl) (fun y1 o h => ?_) ?_
 ·unfold bm at h
  refine SW.R 1 (K71 p0 [(7, vI (p0.length : Int)), (8, vI y1), (9, Z36 y1 p0)]) <| SW.seq ?_
  refine SW.B (decide (y1 < (p0.length : Int))) (fun hc => ?_) (fun hc => ?_)
  ·replace h := an hc h
   refine SW.skip <| ad <| SW.seq <| SW.block <| SW.R 1 (K71 p0 [(5, vI y1), (7, vI (p0.length : Int)), (8, vI y1)]) <| SW.S <| OWk.G 3 (K71 p0 [(5, vI y1), (7, vI (p0.length : Int)), (8, vI y1), (11, Z33), (12, Z32 p0), (13, vI y1)]) ?_
   obtain ⟨x2, hx, h⟩ := aa h
   refine OWk.O (d := some 14) (s := aO none (Go.Sh.D.cells ((D.int .i64) x2))) (K71 p0 [(5, vI y1), (7, vI (p0.length : Int)), (8, vI y1), (11, Z33), (14, .d (.aR [.int .i64 x2]))]) (BAt.index (n := 1) hx (by kernel_rfl)) <| OWk.G 1 (K71 p0 [(5, vI y1), (7, vI (p0.length : Int)), (8, vI y1), (11, Z33), (15, vI x2)]) ?_
   obtain ⟨r3, hr, h⟩ := aa h
   refine OWk.C0 (some 16) (K71 p0 [(5, vI y1), (7, vI (p0.length : Int)), (8, vI y1), (16, vB r3)]) (rB hr) <| OWk.E ?_
   refine SW.B r3 (fun hc => ?_) (fun hc => ?_)
   ·replace h := an hc h
    refine SW.R 1 [(4, vI y1)] <| SW.ret <| ax <| af ?_
    cases h
    refine af ?_
    exact ⟨_, rfl, .inr (⟨y1, rfl, rfl, aA.ret [] (by kernel_rfl) rfl⟩)⟩
   ·replace h := ao hc h
    refine SW.skip <| aH <| ad <| SW.au <| OWk.G 2 (K71 p0 [(7, vI (p0.length : Int)), (8, Z18 y1)]) <| OWk.D ?_
    cases h
    exact ⟨(IntKind.wrap .i64 (y1 + 1)), rfl, by kernel_rfl⟩
  ·replace h := ao hc h
   refine SW.K [] <| SW.exit <| aJ ?_
   cases h
   refine aJ ?_
   exact ⟨_, rfl, .inl ⟨(), rfl, rfl, rfl⟩⟩
 ·rintro _ _ (⟨v5, rfl, rfl, rfl⟩ | ⟨r6, rfl, rfl, hE⟩)
  ·replace h := dO h
   refine aT <| ad <| SW.R 1 [(4, vI (-1))] <| SW.ret ?_
   cases h
   exact aA.ret [] (by kernel_rfl) rfl
  ·replace h := dN h
   refine ax <| af ?_
   cases h
   exact hE
def bn (fuel : Nat) (p0 : (List Int)) : Option (Bool) :=
 (bF fuel p0).bind fun r1 =>
 some (decide (r1 ≥ 0))
theorem fk {fuel : Nat} {p0 : (List Int)} {r : Bool} (h : bn fuel p0 = some r) : PC Try.prog 25 [.d (.list 1 (List.map (D.int .i64) p0)), .d (.fn (.func 26) [] [])] (vB r) := by
 refine PC.br Try.func25 rfl fun H => ?_
 unfold bn at h
 refine SW.kp 9 H [0, 1] (K71 p0 []) (by kernel_rfl) <| SW.R 1 (K71 p0 []) <| SW.S <| OWk.G 2 [(5, Z32 p0), (6, Z33)] ?_
 obtain ⟨r1, hr, h⟩ := aa h
 refine OWk.C0 (some 7) [(7, vI r1)] (fW hr) <| OWk.G 2 [(4, vB (decide (r1 ≥ 0)))] <| OWk.E <| SW.ret ?_
 cases h
 exact aA.ret [] (by kernel_rfl) rfl
def lW (fuel : Nat) (p0 : ah) : Option (Bool) :=
 bif (decide ((p0.aq.length : Int) ≥ 1)) then
  bif (decide ((p0.aq.length : Int) ≤ 8)) then
   bif ((((p0.Down.length : Int) == (p0.aq.length : Int)) && (decide (p0.Dup ≥ 1))) && (decide (p0.Dup ≤ 3))) then
    (bn fuel p0.aq).bind fun r1 =>
    some (!r1)
   else
    some false
  else
   some false
 else
  some false
def Z37 (x0 : ah) : SV := vI (x0.aq.length : Int)
theorem uk {fuel : Nat} {p0 : ah} {r : Bool} (h : lW fuel p0 = some r) : PC Try.prog 10 [.d (bo p0)] (vB r) := by
 refine PC.br Try.func10 rfl fun H => ?_
 unfold lW at h
 refine SW.kp 38 H [0] [(0, Z23 p0)] (by kernel_rfl) <| SW.R 1 [(1, Z1 p0)] <| SW.S <| OWk.G 2 [(1, Z1 p0), (4, Z24 p0)] <| OWk.O (d := some 5) [(1, Z1 p0), (5, Z37 p0)] (BAt.len (enc := (D.int .i64)) (xs := p0.aq) (by kernel_rfl)) <| OWk.G 2 [(1, Z1 p0), (7, Z25 p0)] ?_
 refine OWk.case (decide ((p0.aq.length : Int) ≥ 1)) (fun b => (sp 38 [(1, Z1 p0), (7, vB b)] H)) (by kernel_rfl) (fun hc => ?_) (fun hc => ?_)
 ·replace h := an hc h
  refine OWk.G 2 [(1, Z1 p0), (7, vB true), (9, Z24 p0)] <| OWk.O (d := some 10) [(1, Z1 p0), (7, vB true), (10, Z37 p0)] (BAt.len (enc := (D.int .i64)) (xs := p0.aq) (by kernel_rfl)) <| OWk.G 3 [(1, Z1 p0), (13, Z26 p0)] ?_
  refine OWk.case (decide ((p0.aq.length : Int) ≤ 8)) (fun b => (sp 38 [(1, Z1 p0), (13, vB b)] H)) (by kernel_rfl) (fun hc => ?_) (fun hc => ?_)
  ·replace h := an hc h
   refine OWk.G 2 [(1, Z1 p0), (13, vB true), (15, Z27 p0)] <| OWk.O (d := some 16) [(1, Z1 p0), (13, vB true), (16, Z28 p0)] (BAt.len (enc := D.bool) (xs := p0.Down) (by kernel_rfl)) <| OWk.G 2 [(1, Z1 p0), (13, vB true), (16, Z28 p0), (18, Z24 p0)] <| OWk.O (d := some 19) [(1, Z1 p0), (13, vB true), (16, Z28 p0), (19, Z37 p0)] (BAt.len (enc := (D.int .i64)) (xs := p0.aq) (by kernel_rfl)) <| OWk.G 3 [(1, Z1 p0), (22, Z29 p0)] <| OWk.M 4 ((p0.Down.length : Int) == (p0.aq.length : Int)) (fun b => [(1, Z1 p0), (22, vB b)]) (fun b => [(1, Z1 p0), (26, vB (b && (decide (p0.Dup ≥ 1))))]) <| OWk.G 1 [(1, Z1 p0), (27, Z30 p0)] <| OWk.M 4 (((p0.Down.length : Int) == (p0.aq.length : Int)) && (decide (p0.Dup ≥ 1))) (fun b => [(1, Z1 p0), (27, vB b)]) (fun b => [(1, Z1 p0), (31, vB (b && (decide (p0.Dup ≤ 3))))]) <| OWk.G 1 [(1, Z1 p0), (32, Z31 p0)] ?_
   refine OWk.case ((((p0.Down.length : Int) == (p0.aq.length : Int)) && (decide (p0.Dup ≥ 1))) && (decide (p0.Dup ≤ 3))) (fun b => (sp 38 [(1, Z1 p0), (32, vB b)] H)) (by kernel_rfl) (fun hc => ?_) (fun hc => ?_)
   ·replace h := an hc h
    refine OWk.G 2 [(32, vB true), (34, Z24 p0)] ?_
    obtain ⟨r1, hr, h⟩ := aa h
    refine OWk.C0 (some 35) [(32, vB true), (35, vB r1)] (fk hr) <| OWk.G 3 [(2, vB (!r1))] <| OWk.E <| SW.ret ?_
    cases h
    exact aA.ret [] (by kernel_rfl) rfl
   ·replace h := ao hc h
    refine OWk.G 6 [(2, vB false)] <| OWk.E <| SW.ret ?_
    cases h
    exact aA.ret [] (by kernel_rfl) rfl
  ·replace h := ao hc h
   refine OWk.G 25 [(2, vB false)] <| OWk.E <| SW.ret ?_
   cases h
   exact aA.ret [] (by kernel_rfl) rfl
 ·replace h := ao hc h
  refine OWk.G 31 [(2, vB false)] <| OWk.E <| SW.ret ?_
  cases h
  exact aA.ret [] (by kernel_rfl) rfl
def dn (fuel : Nat) (p0 : (List Int)) : Option ((List Int)) :=
 uF p0 fun b1 =>
 bif b1 then
  some ([] : List Int)
 else
  chk (decide ((([] : List Int) ++ p0).length ≤ room)) <|
  some (([] : List Int) ++ p0)
def Z38 (x0 : Int) : SV := vB ((decide (x0 < 3)) || (decide (x0 > 32)))
def Z39 : SV := .own 1 (List.map (D.int .i64) ([] : List Int))
def Z40 (x0 : (List Int)) : SV := .own 1 (List.map (D.int .i64) (([] : List Int) ++ x0))
theorem eP {fuel : Nat} {p0 : (List Int)} {r : (List Int)} (h : dn fuel p0 = some r) : PC Try.prog 30 [.d (.list 1 (List.map (D.int .i64) p0))] (.own 1 (List.map (D.int .i64) r)) := by
 refine PC.br Try.func30 rfl fun H => ?_
 unfold dn at h
 refine SW.kp 8 H [0] [(0, Z32 p0)] (by kernel_rfl) <| SW.R 1 [(0, Z32 p0)] <| SW.seq <| SW.S <| OWk.G 1 [(0, Z32 p0), (3, Z32 p0)] ?_
 refine OWk.xD (xs := List.map (D.int .i64) p0) (d := some 4) (e := true) 8 H [0, 4] (fun b1 => [(0, Z32 p0), (4, vB b1)]) (by kernel_rfl) (fun _ => by kernel_rfl) (fun b1 hnil => ?_)
 replace h := ke h b1 (fun e => List.map_eq_nil_iff.1 (hnil e))
 refine OWk.E ?_
 refine SW.B b1 (fun hc => ?_) (fun hc => ?_)
 ·replace h := an hc h
  refine SW.R 1 [(2, Z39)] <| SW.ret <| af ?_
  cases h
  exact aA.ret [] (by kernel_rfl) rfl
 ·replace h := ao hc h
  refine SW.skip <| ad <| SW.S <| OWk.sg 8 H [5] [5, 6] 2 [(5, Z39), (6, Z32 p0)] (by kernel_rfl) ?_
  obtain ⟨hk, h⟩ := bH h
  refine OWk.app 8 H (s := 5) (d := 7) (w := 1) [7] (zs := List.map (D.int .i64) (([] : List Int) ++ p0)) [(7, Z40 p0)] (ys := (List.map (D.int .i64) p0)) (by kernel_rfl) (aY) (bY hk) (by kernel_rfl) <| OWk.sg 8 H [5] [2] 1 [(2, Z40 p0)] (by kernel_rfl) <| OWk.E <| SW.ret ?_
  cases h
  exact aA.ret [] (by kernel_rfl) rfl
def cY (fuel : Nat) (p0 : (List Bool)) : Option ((List Bool)) :=
 uF p0 fun b1 =>
 bif b1 then
  some ([] : List Bool)
 else
  chk (decide ((([] : List Bool) ++ p0).length ≤ room)) <|
  some (([] : List Bool) ++ p0)
def Z41 (x0 : (List Bool)) : SV := .d (.list 1 (List.map D.bool x0))
def Z42 : SV := .own 1 (List.map D.bool ([] : List Bool))
def Z43 (x0 : (List Bool)) : SV := .own 1 (List.map D.bool (([] : List Bool) ++ x0))
theorem gS {fuel : Nat} {p0 : (List Bool)} {r : (List Bool)} (h : cY fuel p0 = some r) : PC Try.prog 40 [.d (.list 1 (List.map D.bool p0))] (.own 1 (List.map D.bool r)) := by
 refine PC.br Try.func40 rfl fun H => ?_
 unfold cY at h
 refine SW.kp 8 H [0] [(0, Z41 p0)] (by kernel_rfl) <| SW.R 1 [(0, Z41 p0)] <| SW.seq <| SW.S <| OWk.G 1 [(0, Z41 p0), (3, Z41 p0)] ?_
 refine OWk.xD (xs := List.map D.bool p0) (d := some 4) (e := true) 8 H [0, 4] (fun b1 => [(0, Z41 p0), (4, vB b1)]) (by kernel_rfl) (fun _ => by kernel_rfl) (fun b1 hnil => ?_)
 replace h := ke h b1 (fun e => List.map_eq_nil_iff.1 (hnil e))
 refine OWk.E ?_
 refine SW.B b1 (fun hc => ?_) (fun hc => ?_)
 ·replace h := an hc h
  refine SW.R 1 [(2, Z42)] <| SW.ret <| af ?_
  cases h
  exact aA.ret [] (by kernel_rfl) rfl
 ·replace h := ao hc h
  refine SW.skip <| ad <| SW.S <| OWk.sg 8 H [5] [5, 6] 2 [(5, Z42), (6, Z41 p0)] (by kernel_rfl) ?_
  obtain ⟨hk, h⟩ := bH h
  refine OWk.app 8 H (s := 5) (d := 7) (w := 1) [7] (zs := List.map D.bool (([] : List Bool) ++ p0)) [(7, Z43 p0)] (ys := (List.map D.bool p0)) (by kernel_rfl) (aY) (bY hk) (by kernel_rfl) <| OWk.sg 8 H [5] [2] 1 [(2, Z43 p0)] (by kernel_rfl) <| OWk.E <| SW.ret ?_
  cases h
  exact aA.ret [] (by kernel_rfl) rfl
def qD (fuel : Nat) (p0 : ah) (p1 : Int) (H : Hp) : Option (((Option Nat) × Int) × Hp) :=
 (lW fuel p0).bind fun r1 =>
 bif (!r1) then
  some ((none, 1), H)
 else
  bif ((decide (p1 < 3)) || (decide (p1 > 32))) then
   some ((none, 7), H)
  else
   (dn fuel p0.aq).bind fun r2 =>
   (cY fuel p0.Down).bind fun r3 =>
   (mw H (.cells [.own 3 (List.map ab ([] : List Entry)), .own 1 (List.map cP.enc ([] : List (Option Nat)))])).bind fun q4 =>
   (mw q4.1 (.cells [.d (.list 1 (List.map (D.int .i64) r2)), .d (.list 1 (List.map D.bool r3)), .d (.int .i64 p0.Dup), .d (.int .i64 p1), .d (.ptr q4.2 0), .d (.int .i64 0), .d (.int .i64 0)])).bind fun q5 =>
   some (((some q5.2), 0), q5.1)
def Z44 (x0 : (List Int)) : SV := .own 1 (List.map (D.int .i64) x0)
def Z45 (x0 : (List Bool)) : SV := .own 1 (List.map D.bool x0)
def Z46 (x0 : (List Int)) (x1 : ah) : SV := .box [.d (.list 1 (List.map (D.int .i64) x0)), .d (.list 1 (List.map D.bool x1.Down)), vI x1.Dup]
def Z47 (x0 : (List Int)) (x1 : (List Bool)) (x2 : ah) : SV := .box [.d (.list 1 (List.map (D.int .i64) x0)), .d (.list 1 (List.map D.bool x1)), vI x2.Dup]
def Z48 (x0 : (List Int)) (x1 : (List Bool)) (x2 : ah) : SV := .d (.agg [.list 1 (List.map (D.int .i64) x0), .list 1 (List.map D.bool x1), .int .i64 x2.Dup])
def Z49 : SV := .d (.agg [.bW, .bW])
def Z51 (x0 : (List Int)) (x1 : (List Bool)) (x2 : ah) (x3 : Int) (x4 : (Hp × Nat)) : SV := .d (.agg [.list 1 (List.map (D.int .i64) x0), .list 1 (List.map D.bool x1), .int .i64 x2.Dup, .int .i64 x3, .ptr x4.2 0, .int .i64 0, .int .i64 0])
def K27 := fun a0 a1 (t : SL) => ((1, vI a0) :: (2, Z1 a1) :: t : SL)
def K99 := fun a0 a1 a2 (t : SL) => ((1, vI a0) :: (2, Z1 a1) :: (19, Z44 a2) :: t : SL)
theorem sC {fuel : Nat} {p0 : ah} {p1 : Int} {H : Hp} {r : ((Option Nat) × Int) × Hp} (h : qD fuel p0 p1 H = some r) : SC Try.prog false 17 [.d (bo p0), vI p1] H (.tup [.d (cP.enc r.1.1), vI r.1.2]) r.2 := by
 refine SC.ga Try.func17 rfl ?_
 unfold qD at h
 refine SW.kp 31 H [0, 1] [(0, Z23 p0), (1, vI p1)] (by kernel_rfl) <| SW.R 1 (K27 p1 p0 []) <| SW.seq <| SW.block <| SW.S <| OWk.G 1 (K27 p1 p0 [(7, Z23 p0)]) ?_
 obtain ⟨r1, hr, h⟩ := aa h
 refine OWk.C0 (some 8) (K27 p1 p0 [(8, vB r1)]) (uk hr) <| OWk.G 2 (K27 p1 p0 [(6, vB (!r1))]) <| OWk.E ?_
 refine SW.B (!r1) (fun hc => ?_) (fun hc => ?_)
 ·replace h := an hc h
  refine SW.R 1 [(4, .d (.aL)), (5, vI 1)] <| SW.ret <| ax <| af ?_
  cases h
  exact aA.ret [] (by kernel_rfl) rfl
 ·replace h := ao hc h
  refine SW.S <| OWk.G 3 (K27 p1 p0 [(13, vB (decide (p1 < 3)))]) <| OWk.M 3 (decide (p1 < 3)) (fun b => (K27 p1 p0 [(13, vB b)])) (fun b => (K27 p1 p0 [(16, vB (b || (decide (p1 > 32))))])) <| OWk.G 1 (K27 p1 p0 [(10, Z38 p1)]) <| OWk.E ?_
  refine SW.B ((decide (p1 < 3)) || (decide (p1 > 32))) (fun hc => ?_) (fun hc => ?_)
  ·replace h := an hc h
   refine SW.R 1 [(4, .d (.aL)), (5, vI 7)] <| SW.ret <| ax <| af ?_
   cases h
   exact aA.ret [] (by kernel_rfl) rfl
  ·replace h := ao hc h
   refine SW.skip <| aH <| ad <| SW.seq ?_
   obtain ⟨r2, hr_2, h⟩ := aa h
   obtain ⟨r3, hr_5, h⟩ := aa h
   refine SW.K (K27 p1 p0 []) ?_
   refine SW.y8 31 H [(1, vI p1), (2, Z47 r2 r3 p0)] (by kernel_rfl) (fun X hX => ?_) ?_
   ·have c1023 : X 0 1023 (sp 31 [(1, vI p1), (2, Z47 r2 r3 p0)] H) := by subst hX; exact OX.fin (by kernel_rfl)
    have c511 : X 1 511 (sp 31 [(1, vI p1), (2, Z46 r2 p0), (22, Z45 r3), (24, .loc 2 1)] H) := by
     subst hX
     refine OX.step (i0 := 9) (is := []) (by kernel_rfl) (by kernel_rfl) ⟨?_, trivial⟩
     ·refine OWk.fz 31 H 22 [1, 2, 22, 24] [(1, vI p1), (2, Z46 r2 p0), (22, Z41 r3), (24, .loc 2 1)] (by kernel_rfl) <| OWk.G 1 [(1, vI p1), (2, Z47 r2 r3 p0)] <| OWk.D ?_
      exact c1023
    have c255 : X 2 255 (sp 31 [(1, vI p1), (2, Z46 r2 p0), (22, Z45 r3)] H) := by
     subst hX
     refine OX.step (i0 := 8) (is := []) (by kernel_rfl) (by kernel_rfl) ⟨?_, trivial⟩
     ·refine OWk.G 1 [(1, vI p1), (2, Z46 r2 p0), (22, Z45 r3), (24, .loc 2 1)] <| OWk.D ?_
      exact c511
    have c127 : X 3 127 (sp 31 (K99 p1 p0 r2 [(22, Z45 r3), (23, .loc 2 0)]) H) := by
     subst hX
     refine OX.step (i0 := 7) (is := []) (by kernel_rfl) (by kernel_rfl) ⟨?_, trivial⟩
     ·refine OWk.fz 31 H 19 [1, 2, 19, 22, 23] (K27 p1 p0 [(19, Z32 r2), (22, Z45 r3), (23, .loc 2 0)]) (by kernel_rfl) <| OWk.G 1 [(1, vI p1), (2, Z46 r2 p0), (22, Z45 r3)] <| OWk.D ?_
      exact c255
    have c63 : X 4 63 (sp 31 (K99 p1 p0 r2 [(22, Z45 r3)]) H) := by
     subst hX
     refine OX.step (i0 := 6) (is := []) (by kernel_rfl) (by kernel_rfl) ⟨?_, trivial⟩
     ·refine OWk.G 1 (K99 p1 p0 r2 [(22, Z45 r3), (23, .loc 2 0)]) <| OWk.D ?_
      exact c127
    have c95 : X 4 95 (sp 31 (K99 p1 p0 r2 [(21, Z27 p0), (23, .loc 2 0)]) H) := by
     subst hX
     refine OX.step (i0 := 5) (is := []) (by kernel_rfl) (by kernel_rfl) ⟨?_, trivial⟩
     ·refine OWk.C0 (some 22) (K99 p1 p0 r2 [(22, Z45 r3), (23, .loc 2 0)]) (gS hr_5) <| OWk.D ?_
      exact c127
    have c31 : X 5 31 (sp 31 (K99 p1 p0 r2 [(21, Z27 p0)]) H) := by
     subst hX
     refine OX.step (i0 := 5) (is := [6]) (by kernel_rfl) (by kernel_rfl) ⟨?_, ?_, trivial⟩
     ·refine OWk.C0 (some 22) (K99 p1 p0 r2 [(22, .own 1 (List.map D.bool r3))]) (gS hr_5) <| OWk.D ?_
      exact c63
     ·refine OWk.G 1 (K99 p1 p0 r2 [(21, Z27 p0), (23, .loc 2 0)]) <| OWk.D ?_
      exact c95
    have c15 : X 6 15 (sp 31 (K99 p1 p0 r2 [(20, .loc 2 1)]) H) := by
     subst hX
     refine OX.step (i0 := 4) (is := []) (by kernel_rfl) (by kernel_rfl) ⟨?_, trivial⟩
     ·refine OWk.G 1 (K99 p1 p0 r2 [(21, Z27 p0)]) <| OWk.D ?_
      exact c31
    have c7 : X 7 7 (sp 31 (K99 p1 p0 r2 []) H) := by
     subst hX
     refine OX.step (i0 := 3) (is := []) (by kernel_rfl) (by kernel_rfl) ⟨?_, trivial⟩
     ·refine OWk.G 1 (K99 p1 p0 r2 [(20, .loc 2 1)]) <| OWk.D ?_
      exact c15
    have c27 : X 6 27 (sp 31 (K27 p1 p0 [(18, Z24 p0), (21, Z27 p0)]) H) := by
     subst hX
     refine OX.step (i0 := 2) (is := []) (by kernel_rfl) (by kernel_rfl) ⟨?_, trivial⟩
     ·refine OWk.C0 (some 19) (K99 p1 p0 r2 [(21, Z27 p0)]) (eP hr_2) <| OWk.D ?_
      exact c31
    have c11 : X 7 11 (sp 31 (K27 p1 p0 [(18, Z24 p0), (20, .loc 2 1)]) H) := by
     subst hX
     refine OX.step (i0 := 2) (is := [4]) (by kernel_rfl) (by kernel_rfl) ⟨?_, ?_, trivial⟩
     ·refine OWk.C0 (some 19) (K99 p1 p0 r2 [(20, .loc 2 1)]) (eP hr_2) <| OWk.D ?_
      exact c15
     ·refine OWk.G 1 (K27 p1 p0 [(18, Z24 p0), (21, Z27 p0)]) <| OWk.D ?_
      exact c27
    have c3 : X 8 3 (sp 31 (K27 p1 p0 [(18, Z24 p0)]) H) := by
     subst hX
     refine OX.step (i0 := 2) (is := [3]) (by kernel_rfl) (by kernel_rfl) ⟨?_, ?_, trivial⟩
     ·refine OWk.C0 (some 19) (K27 p1 p0 [(19, .own 1 (List.map (D.int .i64) r2))]) (eP hr_2) <| OWk.D ?_
      exact c7
     ·refine OWk.G 1 (K27 p1 p0 [(18, Z24 p0), (20, .loc 2 1)]) <| OWk.D ?_
      exact c11
    have c25 : X 7 25 (sp 31 (K27 p1 p0 [(17, .loc 2 0), (21, Z27 p0)]) H) := by
     subst hX
     refine OX.step (i0 := 1) (is := []) (by kernel_rfl) (by kernel_rfl) ⟨?_, trivial⟩
     ·refine OWk.G 1 (K27 p1 p0 [(18, Z24 p0), (21, Z27 p0)]) <| OWk.D ?_
      exact c27
    have c9 : X 8 9 (sp 31 (K27 p1 p0 [(17, .loc 2 0), (20, .loc 2 1)]) H) := by
     subst hX
     refine OX.step (i0 := 1) (is := [4]) (by kernel_rfl) (by kernel_rfl) ⟨?_, ?_, trivial⟩
     ·refine OWk.G 1 (K27 p1 p0 [(18, Z24 p0), (20, .loc 2 1)]) <| OWk.D ?_
      exact c11
     ·refine OWk.G 1 (K27 p1 p0 [(17, .loc 2 0), (21, Z27 p0)]) <| OWk.D ?_
      exact c25
    have c1 : X 9 1 (sp 31 (K27 p1 p0 [(17, .loc 2 0)]) H) := by
     subst hX
     refine OX.step (i0 := 1) (is := [3]) (by kernel_rfl) (by kernel_rfl) ⟨?_, ?_, trivial⟩
     ·refine OWk.G 1 (K27 p1 p0 [(18, Z24 p0)]) <| OWk.D ?_
      exact c3
     ·refine OWk.G 1 (K27 p1 p0 [(17, .loc 2 0), (20, .loc 2 1)]) <| OWk.D ?_
      exact c9
    have c24 : X 8 24 (sp 31 (K27 p1 p0 [(21, Z27 p0)]) H) := by
     subst hX
     refine OX.step (i0 := 0) (is := []) (by kernel_rfl) (by kernel_rfl) ⟨?_, trivial⟩
     ·refine OWk.G 1 (K27 p1 p0 [(17, .loc 2 0), (21, Z27 p0)]) <| OWk.D ?_
      exact c25
    have c8 : X 9 8 (sp 31 (K27 p1 p0 [(20, .loc 2 1)]) H) := by
     subst hX
     refine OX.step (i0 := 0) (is := [4]) (by kernel_rfl) (by kernel_rfl) ⟨?_, ?_, trivial⟩
     ·refine OWk.G 1 (K27 p1 p0 [(17, .loc 2 0), (20, .loc 2 1)]) <| OWk.D ?_
      exact c9
     ·refine OWk.G 1 (K27 p1 p0 [(21, Z27 p0)]) <| OWk.D ?_
      exact c24
    have c0 : X 10 0 (sp 31 (K27 p1 p0 []) H) := by
     subst hX
     refine OX.step (i0 := 0) (is := [3]) (by kernel_rfl) (by kernel_rfl) ⟨?_, ?_, trivial⟩
     ·refine OWk.G 1 (K27 p1 p0 [(17, .loc 2 0)]) <| OWk.D ?_
      exact c1
     ·refine OWk.G 1 (K27 p1 p0 [(20, .loc 2 1)]) <| OWk.D ?_
      exact c8
    exact c0
   refine ad <| SW.S <| OWk.G 3 [(25, Z48 r2 r3 p0), (26, vI p1), (27, Z49)] ?_
   obtain ⟨q4, hq, h⟩ := aa h
   refine OWk.iQ 31 q4.1 (d := some 28) (b := false) [(0, 3, true), (1, 1, true)] [25, 26, 28] [(25, Z48 r2 r3 p0), (26, vI p1), (28, .d (.ptr q4.2 0))] hq (by kernel_rfl) rfl (by kernel_rfl) <| OWk.G 1 [(29, Z51 r2 r3 p0 p1 q4)] ?_
   obtain ⟨q5, hq, h⟩ := aa h
   refine OWk.iQ 31 q5.1 (d := some 30) (b := false) [] [30] [(30, .d (.ptr q5.2 0))] hq (by kernel_rfl) rfl (by kernel_rfl) <| OWk.G 2 [(4, .d (.ptr q5.2 0)), (5, vI 0)] <| OWk.E <| SW.ret ?_
   cases h
   exact aA.ret [] (by kernel_rfl) rfl
def bu : Cl ah := ((cL 1 (cI .i64)).one.pair ((cL 1 cB).one.pair (cI .i64).one)).iso (fun p => (⟨p.1, p.2.1, p.2.2⟩ : ah)) (fun x => (x.aq, x.Down, x.Dup)) (fun _ => rfl) (fun _ => rfl)
def fc (fuel : Nat) (p0 : Int) (p1 : Int) (p2 : Int) : Option (Bool) :=
 some ((decide (p0 ≥ p1)) && (decide (p0 ≤ p2)))
def Z52 : SV := .d (.list 1 (List.map (D.int .i64) [1]))
def Z53 : SV := .d (.list 1 (List.map D.bool [false]))
def Z54 : SV := .own 1 (List.map (D.int .i64) [5, 5, 3])
def Z55 (x0 : Int) : SV := .own 3 (List.map ag [(⟨1, x0, []⟩ : Value)])
def Z56 (x0 : (List Value)) (x1 : ah) : SV := vB ((x0.length : Int) != (x1.aq.length : Int))
def Z57 (x0 : Value) : SV := .box [vI x0.Kind, vI x0.N, vS x0.S]
def Z58 (x0 : Value) : SV := .d (.agg [.int .i64 x0.Kind, .int .i64 x0.N, .str x0.S])
def Z59 (x0 : Int) (x1 : Int) (x2 : Int) : SV := vB ((decide (x0 ≥ x1)) && (decide (x0 ≤ x2)))
theorem kq {fuel : Nat} {p0 : Int} {p1 : Int} {p2 : Int} {r : Bool} (h : fc fuel p0 p1 p2 = some r) : PC Try.prog 62 [vI p0, vI p1, vI p2] (vB r) := by
 refine PC.br Try.func62 rfl fun H => ?_
 unfold fc at h
 refine SW.kp 15 H [0, 1, 2] [(0, vI p0), (1, vI p1), (2, vI p2)] (by kernel_rfl) <| SW.R 1 [(0, vI p0), (1, vI p1), (2, vI p2)] <| SW.S <| OWk.G 4 [(0, vI p0), (2, vI p2), (10, vB (decide (p0 ≥ p1)))] <| OWk.M 4 (decide (p0 ≥ p1)) (fun b => [(0, vI p0), (2, vI p2), (10, vB b)]) (fun b => [(14, vB (b && (decide (p0 ≤ p2))))]) <| OWk.G 1 [(6, Z59 p0 p1 p2)] <| OWk.E <| SW.ret ?_
 cases h
 exact aA.ret [] (by kernel_rfl) rfl
def iF (fuel : Nat) : Option (Unit) :=
 some ()
def Z61 : SV := .box [.d (.fn (.func 76) [] []), .d (.fn (.func 77) [] []), .d (.fn (.func 78) [] [])]
theorem pG {fuel : Nat} {r : Unit} (h : iF fuel = some r) : PC Try.prog 63 [] (.d (.agg [.fn (.func 76) [] [], .fn (.func 77) [] [], .fn (.func 78) [] []])) := by
 refine PC.br Try.func63 rfl fun H => ?_
 unfold iF at h
 refine SW.kp 2 H [] [] (by kernel_rfl) <| SW.R 2 [(0, Z61)] <| SW.ret ?_
 cases h
 exact aA.ret [] (by kernel_rfl) rfl
def gn (fuel : Nat) (p0 : Value) : Option (Bool) :=
 some false
def Z62 : SV := .d (.agg [.fn (.func 76) [] [], .fn (.func 77) [] [], .fn (.func 78) [] []])
def Z63 : SV := .d (.fn (.func 76) [] [])
theorem nj {fuel : Nat} {p0 : Value} {r : Bool} (h : gn fuel p0 = some r) : PC Try.prog 76 [.d (ag p0)] (vB r) := by
 refine PC.br Try.func76 rfl fun H => ?_
 unfold gn at h
 refine SW.kp 3 H [0] [(0, Z58 p0)] (by kernel_rfl) <| SW.R 2 [(2, vB false)] <| SW.ret ?_
 cases h
 exact aA.ret [] (by kernel_rfl) rfl
def gm (fuel : Nat) (p0 : Value) : Option (Bool) :=
 bif (p0.S == []) then
  (fc fuel p0.N (-1000000000) 1000000000).bind fun r1 =>
  some r1
 else
  some false
def Z64 : SV := .d (.fn (.func 77) [] [])
theorem ni {fuel : Nat} {p0 : Value} {r : Bool} (h : gm fuel p0 = some r) : PC Try.prog 77 [.d (ag p0)] (vB r) := by
 refine PC.br Try.func77 rfl fun H => ?_
 unfold gm at h
 refine SW.kp 11 H [0] [(0, Z58 p0)] (by kernel_rfl) <| SW.R 1 [(1, Z57 p0)] <| SW.S <| OWk.G 4 [(1, Z57 p0), (6, vB (p0.S == []))] ?_
 refine OWk.case (p0.S == []) (fun b => (sp 11 [(1, Z57 p0), (6, vB b)] H)) (by kernel_rfl) (fun hc => ?_) (fun hc => ?_)
 ·replace h := an hc h
  refine OWk.G 2 [(6, vB true), (8, vI p0.N)] ?_
  obtain ⟨r1, hr, h⟩ := aa h
  refine OWk.C0 (some 9) [(6, vB true), (9, vB r1)] (kq hr) <| OWk.G 2 [(2, vB r1)] <| OWk.E <| SW.ret ?_
  cases h
  exact aA.ret [] (by kernel_rfl) rfl
 ·replace h := ao hc h
  refine OWk.G 5 [(2, vB false)] <| OWk.E <| SW.ret ?_
  cases h
  exact aA.ret [] (by kernel_rfl) rfl
def gl (fuel : Nat) (p0 : Value) : Option (Bool) :=
 bif (p0.N == 0) then
  some (decide ((p0.S.length : Int) ≤ 40))
 else
  some false
def Z65 : SV := .d (.fn (.func 78) [] [])
def Z66 (x0 : Value) : SV := vB (decide ((x0.S.length : Int) ≤ 40))
theorem nh {fuel : Nat} {p0 : Value} {r : Bool} (h : gl fuel p0 = some r) : PC Try.prog 78 [.d (ag p0)] (vB r) := by
 refine PC.br Try.func78 rfl fun H => ?_
 unfold gl at h
 refine SW.kp 12 H [0] [(0, Z58 p0)] (by kernel_rfl) <| SW.R 1 [(1, Z57 p0)] <| SW.S <| OWk.G 4 [(1, Z57 p0), (6, vB (p0.N == 0))] ?_
 refine OWk.case (p0.N == 0) (fun b => (sp 12 [(1, Z57 p0), (6, vB b)] H)) (by kernel_rfl) (fun hc => ?_) (fun hc => ?_)
 ·replace h := an hc h
  refine OWk.G 2 [(6, vB true), (8, vS p0.S)] <| OWk.G 1 [(6, vB true), (9, vI (p0.S.length : Int))] <| OWk.G 3 [(2, Z66 p0)] <| OWk.E <| SW.ret ?_
  cases h
  exact aA.ret [] (by kernel_rfl) rfl
 ·replace h := ao hc h
  refine OWk.G 6 [(2, vB false)] <| OWk.E <| SW.ret ?_
  cases h
  exact aA.ret [] (by kernel_rfl) rfl
def dz (fuel : Nat) (p0 : Value) : Option (Bool) :=
 (fc fuel p0.Kind 0 2).bind fun r1 =>
 bif r1 then
  (iF fuel).bind fun r2 =>
  bif (p0.Kind == 0) then
   (gn fuel p0).bind fun r3 =>
   some r3
  else
   bif (p0.Kind == 1) then
    (gm fuel p0).bind fun r4 =>
    some r4
   else
    bif (p0.Kind == 2) then
     (gl fuel p0).bind fun r5 =>
     some r5
    else
     none
 else
  some false
theorem lK {fuel : Nat} {p0 : Value} {r : Bool} (h : dz fuel p0 = some r) : PC Try.prog 45 [.d (ag p0)] (vB r) := by
 refine PC.br Try.func45 rfl fun H => ?_
 unfold dz at h
 refine SW.kp 14 H [0] [(0, Z58 p0)] (by kernel_rfl) <| SW.R 1 [(1, Z57 p0)] <| SW.seq <| SW.cw (by kernel_rfl) (by kernel_rfl) <| OQk.G 2 [(1, Z57 p0), (4, vI p0.Kind)] ?_
 obtain ⟨r1, hr, h⟩ := aa h
 refine OQk.cl 14 H (d := some 5) (ls := []) [1, 5] [(1, Z57 p0), (5, vB r1)] (kq hr) (by kernel_rfl) (by kernel_rfl) (by kernel_rfl) <| OQk.G 1 [(1, Z57 p0), (6, vB r1)] ?_
 refine OQk.case r1 (fun b => (sp 14 [(1, Z57 p0), (6, vB b)] H)) (by kernel_rfl) (fun hc => ?_) (fun hc => ?_)
 ·replace h := an hc h
  obtain ⟨r2, hr, h⟩ := aa h
  refine OQk.cl 14 H (d := some 7) (ls := []) [1, 6, 7] [(1, Z57 p0), (6, vB true), (7, Z62)] (pG hr) (by kernel_rfl) (by kernel_rfl) (by kernel_rfl) <| OQk.G 2 [(1, Z57 p0), (6, vB true), (7, Z62), (9, vI p0.Kind)] ?_
  rcases hc : (p0.Kind == 0) with _ | _
  ·replace h := ao hc h
   rcases hc : (p0.Kind == 1) with _ | _
   ·replace h := ao hc h
    rcases hc : (p0.Kind == 2) with _ | _
    ·replace h := ao hc h
     cases h
    ·replace h := an hc h
     refine OQk.lit (fun e => (sp 14 [(1, Z57 p0), (6, vB true), (7, Z62), (9, vI e)] H)) (by kernel_rfl) hc <| OQk.G 2 [(6, vB true), (10, Z65), (11, Z58 p0)] ?_
     obtain ⟨r5, hr, h⟩ := aa h
     refine OQk.cl 14 H (d := some 12) (ls := []) [6, 12] [(6, vB true), (12, vB r5)] (nh hr) (by kernel_rfl) (by kernel_rfl) (by kernel_rfl) <| OQk.G 2 [(2, vB r5)] <| OQk.done (by kernel_rfl) <| ad <| SW.ret ?_
     cases h
     exact aA.ret [] (by kernel_rfl) rfl
   ·replace h := an hc h
    refine OQk.lit (fun e => (sp 14 [(1, Z57 p0), (6, vB true), (7, Z62), (9, vI e)] H)) (by kernel_rfl) hc <| OQk.G 2 [(6, vB true), (10, Z64), (11, Z58 p0)] ?_
    obtain ⟨r4, hr, h⟩ := aa h
    refine OQk.cl 14 H (d := some 12) (ls := []) [6, 12] [(6, vB true), (12, vB r4)] (ni hr) (by kernel_rfl) (by kernel_rfl) (by kernel_rfl) <| OQk.G 2 [(2, vB r4)] <| OQk.done (by kernel_rfl) <| ad <| SW.ret ?_
    cases h
    exact aA.ret [] (by kernel_rfl) rfl
  ·replace h := an hc h
   refine OQk.lit (fun e => (sp 14 [(1, Z57 p0), (6, vB true), (7, Z62), (9, vI e)] H)) (by kernel_rfl) hc <| OQk.G 2 [(6, vB true), (10, Z63), (11, Z58 p0)] ?_
   obtain ⟨r3, hr, h⟩ := aa h
   refine OQk.cl 14 H (d := some 12) (ls := []) [6, 12] [(6, vB true), (12, vB r3)] (nj hr) (by kernel_rfl) (by kernel_rfl) (by kernel_rfl) <| OQk.G 2 [(2, vB r3)] <| OQk.done (by kernel_rfl) <| ad <| SW.ret ?_
   cases h
   exact aA.ret [] (by kernel_rfl) rfl
 ·replace h := ao hc h
  refine OQk.G 8 [(2, vB false)] <| OQk.done (by kernel_rfl) <| ad <| SW.ret ?_
  cases h
  exact aA.ret [] (by kernel_rfl) rfl
def iW (fuel : Nat) (p1 : (List Value)) (y1 : (List Int) × (List Bool) × Int × Int) : Option (((List Int) × (List Bool) × Int × Int) ⊕ ((Unit) ⊕ ((Bool)))) :=
 bif (decide (y1.2.2.2 < (p1.length : Int))) then
  (idx p1 y1.2.2.2).bind fun x2 =>
  (idx y1.1 y1.2.2.2).bind fun x3 =>
  bif (x2.Kind != x3) then
   some (.inr (.inr false))
  else
   (dz fuel x2).bind fun r4 =>
   bif (!r4) then
    some (.inr (.inr false))
   else
    some (.inl (y1.1, y1.2.1, y1.2.2.1, (IntKind.wrap .i64 (y1.2.2.2 + 1))))
 else
  some (.inr (.inl ()))
def mR (fuel : Nat) (p0 : ah) (p1 : (List Value)) : Option (Bool) :=
 bif ((p1.length : Int) != (p0.aq.length : Int)) then
  some false
 else
  (iter (iW fuel p1) fuel (p0.aq, p0.Down, p0.Dup, 0)).bind (Sum.elim (fun v6 =>
   some true) (fun r7 =>
   some r7))
def Z67 (x0 : (List Int) × (List Bool) × Int × Int) : SV := .box [.d (.list 1 (List.map (D.int .i64) x0.1)), .d (.list 1 (List.map D.bool x0.2.1)), vI x0.2.2.1]
def Z68 (x0 : (List Int) × (List Bool) × Int × Int) (x1 : (List Value)) : SV := vB (decide (x0.2.2.2 < (x1.length : Int)))
def Z69 (x0 : (List Int) × (List Bool) × Int × Int) : SV := .d (.list 1 (List.map (D.int .i64) x0.1))
def Z70 (x0 : (List Int) × (List Bool) × Int × Int) : SV := vI (IntKind.wrap .i64 (x0.2.2.2 + 1))
def K42 := fun a0 a1 (t : SL) => ((1, Z13 a0) :: (2, Z1 a1) :: t : SL)
def K64 := fun a0 a1 a2 a3 (t : SL) => ((2, Z67 a0) :: (13, Z13 a1) :: (14, vI (a2 : Int)) :: (15, vI a3) :: t : SL)
def K94 := fun a0 a1 a2 a3 a4 (t : SL) => ((2, Z67 a0) :: (6, Z57 a1) :: (13, Z13 a2) :: (14, vI (a3 : Int)) :: (15, vI a4) :: t : SL)
theorem qC {fuel : Nat} {p0 : ah} {p1 : (List Value)} {r : Bool} (h : mR fuel p0 p1 = some r) : PC Try.prog 20 [.d (bo p0), .d (.list 3 (List.map ag p1))] (vB r) := by
 refine PC.br Try.func20 rfl fun H => ?_
 unfold mR at h
 refine SW.kp 34 H [0, 1] [(0, Z23 p0), (1, Z13 p1)] (by kernel_rfl) <| SW.R 1 (K42 p1 p0 []) <| SW.seq <| SW.S <| OWk.G 1 (K42 p1 p0 [(7, Z13 p1)]) <| OWk.O (d := some 8) (K42 p1 p0 [(8, vI (p1.length : Int))]) (BAt.len (enc := ag) (xs := p1) (by kernel_rfl)) <| OWk.G 2 (K42 p1 p0 [(8, vI (p1.length : Int)), (10, Z24 p0)]) <| OWk.O (d := some 11) (K42 p1 p0 [(8, vI (p1.length : Int)), (11, Z37 p0)]) (BAt.len (enc := (D.int .i64)) (xs := p0.aq) (by kernel_rfl)) <| OWk.G 1 (K42 p1 p0 [(12, Z56 p1 p0)]) <| OWk.E ?_
 refine SW.B ((p1.length : Int) != (p0.aq.length : Int)) (fun hc => ?_) (fun hc => ?_)
 ·replace h := an hc h
  refine SW.R 1 [(4, vB false)] <| SW.ret <| af ?_
  cases h
  exact aA.ret [] (by kernel_rfl) rfl
 ·replace h := ao hc h
  refine SW.skip <| ad <| SW.seq <| SW.S <| OWk.G 1 [(2, Z1 p0), (13, Z13 p1)] <| OWk.O (d := some 14) [(2, Z1 p0), (13, Z13 p1), (14, vI (p1.length : Int))] (BAt.len (enc := ag) (xs := p1) (by kernel_rfl)) <| OWk.G 1 [(2, Z1 p0), (13, Z13 p1), (14, vI (p1.length : Int)), (15, vI 0)] <| OWk.E <| SW.block ?_
  obtain ⟨z5, hit, h⟩ := aa h
  refine SW.it 34 H [2, 13, 14, 15] (fun y1 => [(2, .box [.d (.list 1 (List.map (D.int .i64) y1.1)), .d (.list 1 (List.map D.bool y1.2.1)), vI y1.2.2.1]), (13, Z13 p1), (14, vI (p1.length : Int)), (15, vI y1.2.2.2)]) (fun b e s => ((∃ v6, b = (.inl v6) ∧ (e = .exit 0 ∧ s = (sp 34 [] H))) ∨ (∃ r7, b = (.inr r7) ∧ (e = .ret ∧ aA Try.prog Try.f20.results.toList H (vB r7) .ret s)))) hit (by kernel_rfl) (fun y1 o h => ?_) ?_
  ·unfold iW at h
   refine SW.R 1 (K64 y1 p1 p1.length y1.2.2.2 [(16, Z68 y1 p1)]) <| SW.seq ?_
   refine SW.B (decide (y1.2.2.2 < (p1.length : Int))) (fun hc => ?_) (fun hc => ?_)
   ·replace h := an hc h
    refine SW.skip <| ad <| SW.seq <| SW.block <| SW.S <| OWk.G 1 (K64 y1 p1 p1.length y1.2.2.2 [(17, vI y1.2.2.2)]) ?_
    obtain ⟨x2, hx, h⟩ := aa h
    refine OWk.O (d := some 18) (s := aO none (Go.Sh.D.cells (ag x2))) (K64 y1 p1 p1.length y1.2.2.2 [(17, vI y1.2.2.2), (18, .d (.aR [.int .i64 x2.Kind, .int .i64 x2.N, .str x2.S]))]) (BAt.index (n := 3) hx (by kernel_rfl)) <| OWk.G 4 [(2, Z67 y1), (5, vI y1.2.2.2), (6, Z57 x2), (13, Z13 p1), (14, vI (p1.length : Int)), (15, vI y1.2.2.2)] <| OWk.E <| SW.seq <| SW.cw (by kernel_rfl) (by kernel_rfl) <| OQk.G 5 (K94 y1 x2 p1 p1.length y1.2.2.2 [(21, vI x2.Kind), (23, Z69 y1), (24, vI y1.2.2.2)]) ?_
    obtain ⟨x3, hx, h⟩ := aa h
    refine OQk.on 34 H (d := some 25) (s := aO none (Go.Sh.D.cells ((D.int .i64) x3))) [2, 6, 13, 14, 15, 21, 25] (K94 y1 x2 p1 p1.length y1.2.2.2 [(21, vI x2.Kind), (25, .d (.aR [.int .i64 x3]))]) (BAt.index (n := 1) hx (by kernel_rfl)) (by kernel_rfl) <| OQk.G 3 (K94 y1 x2 p1 p1.length y1.2.2.2 [(28, vB (x2.Kind != x3))]) ?_
    refine OQk.case (x2.Kind != x3) (fun b => (sp 34 (K94 y1 x2 p1 p1.length y1.2.2.2 [(28, vB b)]) H)) (by kernel_rfl) (fun hc => ?_) (fun hc => ?_)
    ·replace h := an hc h
     refine OQk.G 4 (K64 y1 p1 p1.length y1.2.2.2 [(32, vB true)]) <| OQk.done (by kernel_rfl) <| ad <| SW.gH (by kernel_rfl) <| SW.R 1 [(4, vB false)] <| SW.ret <| ax <| af ?_
     cases h
     refine af ?_
     exact ⟨_, rfl, .inr (⟨false, rfl, rfl, aA.ret [] (by kernel_rfl) rfl⟩)⟩
    ·replace h := ao hc h
     refine OQk.G 1 (K64 y1 p1 p1.length y1.2.2.2 [(28, vB false), (29, Z58 x2)]) ?_
     obtain ⟨r4, hr, h⟩ := aa h
     refine OQk.cl 34 H (d := some 30) (ls := []) [2, 13, 14, 15, 28, 30] (K64 y1 p1 p1.length y1.2.2.2 [(28, vB false), (30, vB r4)]) (lK hr) (by kernel_rfl) (by kernel_rfl) (by kernel_rfl) <| OQk.G 2 (K64 y1 p1 p1.length y1.2.2.2 [(32, vB (!r4))]) <| OQk.done (by kernel_rfl) <| ad ?_
     refine SW.B (!r4) (fun hc => ?_) (fun hc => ?_)
     ·replace h := an hc h
      refine SW.R 1 [(4, vB false)] <| SW.ret <| ax <| af ?_
      cases h
      refine af ?_
      exact ⟨_, rfl, .inr (⟨false, rfl, rfl, aA.ret [] (by kernel_rfl) rfl⟩)⟩
     ·replace h := ao hc h
      refine SW.skip <| aH <| ad <| SW.au <| OWk.G 2 [(2, Z67 y1), (13, Z13 p1), (14, vI (p1.length : Int)), (15, Z70 y1)] <| OWk.D ?_
      cases h
      exact ⟨(y1.1, y1.2.1, y1.2.2.1, (IntKind.wrap .i64 (y1.2.2.2 + 1))), rfl, by kernel_rfl⟩
   ·replace h := ao hc h
    refine SW.K [] <| SW.exit <| aJ ?_
    cases h
    refine aJ ?_
    exact ⟨_, rfl, .inl ⟨(), rfl, rfl, rfl⟩⟩
  ·rintro _ _ (⟨v6, rfl, rfl, rfl⟩ | ⟨r7, rfl, rfl, hE⟩)
   ·replace h := dO h
    refine aT <| ad <| SW.R 1 [(4, vB true)] <| SW.ret ?_
    cases h
    exact aA.ret [] (by kernel_rfl) rfl
   ·replace h := dN h
    refine ax <| af ?_
    cases h
    exact hE
def sA (fuel : Nat) (p0 : Int) : Option (Bool) :=
 some ((decide (p0 ≥ 1)) && (decide (p0 ≤ 1000000)))
def Z71 (x0 : Int) : SV := vB ((decide (x0 ≥ 1)) && (decide (x0 ≤ 1000000)))
theorem sy {fuel : Nat} {p0 : Int} {r : Bool} (h : sA fuel p0 = some r) : PC Try.prog 21 [vI p0] (vB r) := by
 refine PC.br Try.func21 rfl fun H => ?_
 unfold sA at h
 refine SW.kp 9 H [0] [(0, vI p0)] (by kernel_rfl) <| SW.R 1 [(0, vI p0)] <| SW.S <| OWk.G 3 [(0, vI p0), (5, vB (decide (p0 ≥ 1)))] <| OWk.M 3 (decide (p0 ≥ 1)) (fun b => [(0, vI p0), (5, vB b)]) (fun b => [(8, vB (b && (decide (p0 ≤ 1000000))))]) <| OWk.G 1 [(2, Z71 p0)] <| OWk.E <| SW.ret ?_
 cases h
 exact aA.ret [] (by kernel_rfl) rfl
def jl (fuel : Nat) (p0 : Nat) (p1 : (List Value)) (p2 : Int) (H : Hp) : Option (Int) :=
 (bg bu.cells H p0 0).bind fun x1 =>
 (mR fuel x1 p1).bind fun r2 =>
 bif (!r2) then
  some 1
 else
  (sA fuel p2).bind fun r3 =>
  bif (!r3) then
   some 1
  else
   some 0
def K16 := fun a0 a1 a2 (t : SL) => ((0, .d (.ptr a0 0)) :: (1, Z13 a1) :: (2, vI a2) :: t : SL)
theorem n7 {fuel : Nat} {p0 : Nat} {p1 : (List Value)} {p2 : Int} {H : Hp} {r : Int} (h : jl fuel p0 p1 p2 H = some r) : SC Try.prog true 41 [.d (.ptr p0 0), .d (.list 3 (List.map ag p1)), vI p2] H (vI r) H := by
 refine SC.gL Try.func41 rfl ?_
 unfold jl at h
 refine SW.kp 23 H [0, 1, 2] (K16 p0 p1 p2 []) (by kernel_rfl) <| SW.R 1 (K16 p0 p1 p2 []) <| SW.seq <| SW.S <| OWk.G 6 [(1, Z13 p1), (2, vI p2), (9, vB false), (12, .d (.ptr p0 0))] ?_
 obtain ⟨x1, hx, h⟩ := aa h
 refine OWk.O (d := some 13) (s := .d (.agg [.list 1 (List.map (D.int .i64) x1.aq), .list 1 (List.map D.bool x1.Down), .int .i64 x1.Dup])) [(1, Z13 p1), (2, vI p2), (9, vB false), (13, Z23 x1)] (BAt.ldH (c := bu.cells) hx (by kernel_rfl)) <| OWk.G 1 [(2, vI p2), (9, vB false), (13, Z23 x1), (14, Z13 p1)] ?_
 obtain ⟨r2, hr, h⟩ := aa h
 refine OWk.C0 (some 15) [(2, vI p2), (9, vB false), (15, vB r2)] (qC hr) <| OWk.G 3 [(2, vI p2), (18, vB (!r2))] ?_
 refine OWk.case (!r2) (fun b => (sp 23 [(2, vI p2), (18, vB b)] H)) (by kernel_rfl) (fun hc => ?_) (fun hc => ?_)
 ·replace h := an hc h
  refine OWk.G 4 [(22, vB true)] <| OWk.E <| SW.gH (by kernel_rfl) <| SW.R 1 [(6, vI 1)] <| SW.ret <| af ?_
  cases h
  exact aA.ret [] (by kernel_rfl) rfl
 ·replace h := ao hc h
  refine OWk.G 1 [(18, vB false), (19, vI p2)] ?_
  obtain ⟨r3, hr, h⟩ := aa h
  refine OWk.C0 (some 20) [(18, vB false), (20, vB r3)] (sy hr) <| OWk.G 2 [(22, vB (!r3))] <| OWk.E ?_
  refine SW.B (!r3) (fun hc => ?_) (fun hc => ?_)
  ·replace h := an hc h
   refine SW.R 1 [(6, vI 1)] <| SW.ret <| af ?_
   cases h
   exact aA.ret [] (by kernel_rfl) rfl
  ·replace h := ao hc h
   refine SW.skip <| ad <| SW.R 1 [(6, vI 0)] <| SW.ret ?_
   cases h
   exact aA.ret [] (by kernel_rfl) rfl
def lD (fuel : Nat) (p0 : Nat) (p1 : (List Value)) (H : Hp) : Option ((Bool) × Hp) :=
 none
theorem qh {fuel : Nat} {p0 : Nat} {p1 : (List Value)} {H : Hp} {r : (Bool) × Hp} (h : lD fuel p0 p1 H = some r) : SC Try.prog false 42 [.d (.ptr p0 0), .d (.list 3 (List.map ag p1))] H (vB r.1) r.2 := by
 refine SC.oE Try.func42 rfl ?_
 unfold lD at h
 refine dJ.kp 21 H [0, 1] [(0, .d (.ptr p0 0)), (1, Z13 p1)] (by kernel_rfl) ?_
 cases h
def cG (fuel : Nat) (p0 : (List Value)) : Option ((List Value)) :=
 uF p0 fun b1 =>
 bif b1 then
  some ([] : List Value)
 else
  chk (decide ((([] : List Value) ++ p0).length ≤ room)) <|
  some (([] : List Value) ++ p0)
def Z72 : SV := .own 3 (List.map ag ([] : List Value))
def Z73 (x0 : (List Value)) : SV := .own 3 (List.map ag (([] : List Value) ++ x0))
theorem cA {fuel : Nat} {p0 : (List Value)} {r : (List Value)} (h : cG fuel p0 = some r) : PC Try.prog 44 [.d (.list 3 (List.map ag p0))] (.own 3 (List.map ag r)) := by
 refine PC.br Try.func44 rfl fun H => ?_
 unfold cG at h
 refine SW.kp 8 H [0] [(0, Z13 p0)] (by kernel_rfl) <| SW.R 1 [(0, Z13 p0)] <| SW.seq <| SW.S <| OWk.G 1 [(0, Z13 p0), (3, Z13 p0)] ?_
 refine OWk.xD (xs := List.map ag p0) (d := some 4) (e := true) 8 H [0, 4] (fun b1 => [(0, Z13 p0), (4, vB b1)]) (by kernel_rfl) (fun _ => by kernel_rfl) (fun b1 hnil => ?_)
 replace h := ke h b1 (fun e => List.map_eq_nil_iff.1 (hnil e))
 refine OWk.E ?_
 refine SW.B b1 (fun hc => ?_) (fun hc => ?_)
 ·replace h := an hc h
  refine SW.R 1 [(2, Z72)] <| SW.ret <| af ?_
  cases h
  exact aA.ret [] (by kernel_rfl) rfl
 ·replace h := ao hc h
  refine SW.skip <| ad <| SW.S <| OWk.sg 8 H [5] [5, 6] 2 [(5, Z72), (6, Z13 p0)] (by kernel_rfl) ?_
  obtain ⟨hk, h⟩ := bH h
  refine OWk.app 8 H (s := 5) (d := 7) (w := 3) [7] (zs := List.map ag (([] : List Value) ++ p0)) [(7, Z73 p0)] (ys := (List.map ag p0)) (by kernel_rfl) (aY) (bY hk) (by kernel_rfl) <| OWk.sg 8 H [5] [2] 1 [(2, Z73 p0)] (by kernel_rfl) <| OWk.E <| SW.ret ?_
  cases h
  exact aA.ret [] (by kernel_rfl) rfl
def zE : Cl Value := ((cI .i64).one.pair ((cI .i64).one.pair cS.one)).iso (fun p => (⟨p.1, p.2.1, p.2.2⟩ : Value)) (fun x => (x.Kind, x.N, x.S)) (fun _ => rfl) (fun _ => rfl)
def AG : Cd Value := zE.agg
def zF : Cl Entry := ((cL 3 AG).one.pair ((cI .i64).one.pair (cI .i64).one)).iso (fun p => (⟨p.1, p.2.1, p.2.2⟩ : Entry)) (fun x => (x.Row, x.Key, x.Number)) (fun _ => rfl) (fun _ => rfl)
def aK : Cd Entry := zF.agg
def iJ (fuel : Nat) : Option (Unit) :=
 some ()
def Z74 (x0 : (List Value)) : SV := .own 3 (List.map ag x0)
def Z75 (x0 : (List Value)) (x1 : Int) (x2 : Int) : SV := .d (.agg [.list 3 (List.map ag x0), .int .i64 x1, .int .i64 x2])
def Z76 (x0 : Entry) : SV := .box [.d (.list 3 (List.map ag x0.Row)), vI x0.Key, vI x0.Number]
def Z77 (x0 : Entry) : SV := .d (.agg [.list 3 (List.map ag x0.Row), .int .i64 x0.Key, .int .i64 x0.Number])
def Z78 (x0 : Nat) (x1 : (List Entry)) : SV := .bf (.ai x0 0) 3 (List.map ab x1)
def Z79 (x0 : Nat) : SV := .d (.fn (.func 88) [] [.aR [.ptr x0 0]])
def Z80 (x0 : (List Entry)) : SV := .d (.list 3 (List.map ab x0))
def Z81 (x0 : (Option Nat)) : SV := .d (.fn (.func 88) [] [.aR [cP.enc x0]])
def Z84 (x0 : Entry) : SV := .d (.list 3 (List.map ag x0.Row))
def Z86 : SV := .box [.d (.fn (.func 79) [] []), .d (.fn (.func 80) [] []), .d (.fn (.func 81) [] []), .d (.fn (.func 83) [] [])]
theorem mS {fuel : Nat} {r : Unit} (h : iJ fuel = some r) : PC Try.prog 64 [] (.d (.agg [.fn (.func 79) [] [], .fn (.func 80) [] [], .fn (.func 81) [] [], .fn (.func 83) [] []])) := by
 refine PC.br Try.func64 rfl fun H => ?_
 unfold iJ at h
 refine SW.kp 2 H [] [] (by kernel_rfl) <| SW.R 2 [(0, Z86)] <| SW.ret ?_
 cases h
 exact aA.ret [] (by kernel_rfl) rfl
def eN (fuel : Nat) (p0 : Value) (p1 : Value) : Option (Int) :=
 some (IntKind.wrap .i64 (p0.N - p1.N))
def Z87 : SV := .d (.agg [.fn (.func 79) [] [], .fn (.func 80) [] [], .fn (.func 81) [] [], .fn (.func 83) [] []])
def Z89 (x0 : Int) : SV := vI (IntKind.wrap .i64 (2 * (IntKind.wrap .i64 (x0 - 1))))
def Z90 (x0 : Int) : SV := vI (IntKind.wrap .i64 ((IntKind.wrap .i64 (2 * (IntKind.wrap .i64 (x0 - 1)))) + 1))
def Z91 : SV := .d (.fn (.func 79) [] [])
def Z92 (x0 : Value) (x1 : Value) : SV := vI (IntKind.wrap .i64 (x0.N - x1.N))
theorem lB {fuel : Nat} {p0 : Value} {p1 : Value} {r : Int} (h : eN fuel p0 p1 = some r) : PC Try.prog 79 [.d (ag p0), .d (ag p1)] (vI r) := by
 refine PC.br Try.func79 rfl fun H => ?_
 unfold eN at h
 refine SW.kp 10 H [0, 1] [(0, Z58 p0), (1, Z58 p1)] (by kernel_rfl) <| SW.R 2 [(4, Z92 p0 p1)] <| SW.ret ?_
 cases h
 exact aA.ret [] (by kernel_rfl) rfl
def eM (fuel : Nat) (p0 : Value) (p1 : Value) : Option (Int) :=
 some (IntKind.wrap .i64 (p1.N - p0.N))
def Z93 : SV := .d (.fn (.func 80) [] [])
theorem lA {fuel : Nat} {p0 : Value} {p1 : Value} {r : Int} (h : eM fuel p0 p1 = some r) : PC Try.prog 80 [.d (ag p0), .d (ag p1)] (vI r) := by
 refine PC.br Try.func80 rfl fun H => ?_
 unfold eM at h
 refine SW.kp 10 H [0, 1] [(0, Z58 p0), (1, Z58 p1)] (by kernel_rfl) <| SW.R 2 [(4, Z92 p1 p0)] <| SW.ret ?_
 cases h
 exact aA.ret [] (by kernel_rfl) rfl
theorem jK (a b : ByteArray) (w : World) :
  Calls Try.prog 93 #[.string a, .string b] w fun e w' => e = .returned (.int .i64 (Lib.compareBytes a.data.toList b.data.toList)) ∧ w' = w := by
 go_enter Try.func93, Try.ntmps93
 go_wp2
 rw [run_callFunc_extern Try.func97 (by kernel_rfl) (by kernel_rfl) (by kernel_rfl) (e := Extern.BytealgCompare.compare) (by kernel_rfl), Lib.run_compareString]
 simp only [Result.andThen]
 rw [Oper.upon_value]
 go_wp2
 go_ret
 exact ⟨rfl, rfl⟩
theorem zB {fuel : Nat} {p0 : (List UInt8)} {p1 : (List UInt8)} {r : Int} (h : AE fuel p0 p1 = some r) : PC Try.prog 93 [vS p0, vS p1] (vI r) := zA h jK
def eO (fuel : Nat) (p0 : (List UInt8)) (p1 : (List UInt8)) : Option (Int) :=
 (AE fuel p0 p1).bind fun r1 =>
 some r1
def Z94 : SV := .d (.fn (.func 81) [] [])
theorem hJ {fuel : Nat} {p0 : (List UInt8)} {p1 : (List UInt8)} {r : Int} (h : eO fuel p0 p1 = some r) : PC Try.prog 82 [vS p0, vS p1] (vI r) := by
 refine PC.br Try.func82 rfl fun H => ?_
 unfold eO at h
 refine SW.kp 8 H [0, 1] [(0, vS p0), (1, vS p1)] (by kernel_rfl) <| SW.R 1 [(0, vS p0), (1, vS p1)] <| SW.S <| OWk.G 2 [(5, vS p0), (6, vS p1)] ?_
 obtain ⟨r1, hr, h⟩ := aa h
 refine OWk.C0 (some 7) [(7, vI r1)] (zB hr) <| OWk.G 1 [(4, vI r1)] <| OWk.E <| SW.ret ?_
 cases h
 exact aA.ret [] (by kernel_rfl) rfl
def eK (fuel : Nat) (p0 : Value) (p1 : Value) : Option (Int) :=
 (eO fuel p0.S p1.S).bind fun r1 =>
 some r1
def K90 := fun a0 a1 (t : SL) => ((2, Z57 a0) :: (3, Z57 a1) :: t : SL)
theorem lz {fuel : Nat} {p0 : Value} {p1 : Value} {r : Int} (h : eK fuel p0 p1 = some r) : PC Try.prog 81 [.d (ag p0), .d (ag p1)] (vI r) := by
 refine PC.br Try.func81 rfl fun H => ?_
 unfold eK at h
 refine SW.kp 10 H [0, 1] [(0, Z58 p0), (1, Z58 p1)] (by kernel_rfl) <| SW.R 1 (K90 p0 p1 []) <| SW.S <| OWk.G 4 [(6, vS p0.S), (8, vS p1.S)] ?_
 obtain ⟨r1, hr, h⟩ := aa h
 refine OWk.C0 (some 9) [(9, vI r1)] (hJ hr) <| OWk.G 1 [(4, vI r1)] <| OWk.E <| SW.ret ?_
 cases h
 exact aA.ret [] (by kernel_rfl) rfl
def eJ (fuel : Nat) (p0 : Value) (p1 : Value) : Option (Int) :=
 (eO fuel p1.S p0.S).bind fun r1 =>
 some r1
def Z95 : SV := .d (.fn (.func 83) [] [])
theorem ly {fuel : Nat} {p0 : Value} {p1 : Value} {r : Int} (h : eJ fuel p0 p1 = some r) : PC Try.prog 83 [.d (ag p0), .d (ag p1)] (vI r) := by
 refine PC.br Try.func83 rfl fun H => ?_
 unfold eJ at h
 refine SW.kp 10 H [0, 1] [(0, Z58 p0), (1, Z58 p1)] (by kernel_rfl) <| SW.R 1 (K90 p0 p1 []) <| SW.S <| OWk.G 4 [(6, vS p1.S), (8, vS p0.S)] ?_
 obtain ⟨r1, hr, h⟩ := aa h
 refine OWk.C0 (some 9) [(9, vI r1)] (hJ hr) <| OWk.G 1 [(4, vI r1)] <| OWk.E <| SW.ret ?_
 cases h
 exact aA.ret [] (by kernel_rfl) rfl
def iV (fuel : Nat) (p0 : ah) (p1 : (List Value)) (p2 : (List Value)) (y2 : Int) : Option ((Int) ⊕ ((Unit) ⊕ ((Int)))) :=
 bif (decide (y2 < (p0.aq.length : Int))) then
  (idx p0.aq y2).bind fun x3 =>
  aX (fun (j4 : Int) =>
   bif (j4 == 0) then
    (idx p1 y2).bind fun x7 =>
    (idx p2 y2).bind fun x8 =>
    (eN fuel x7 x8).bind fun r9 =>
    bif (r9 != 0) then
     some (.inr (.inr r9))
    else
     some (.inl (IntKind.wrap .i64 (y2 + 1)))
   else
    bif (j4 == 1) then
     (idx p1 y2).bind fun x10 =>
     (idx p2 y2).bind fun x11 =>
     (eM fuel x10 x11).bind fun r12 =>
     bif (r12 != 0) then
      some (.inr (.inr r12))
     else
      some (.inl (IntKind.wrap .i64 (y2 + 1)))
    else
     bif (j4 == 2) then
      (idx p1 y2).bind fun x13 =>
      (idx p2 y2).bind fun x14 =>
      (eK fuel x13 x14).bind fun r15 =>
      bif (r15 != 0) then
       some (.inr (.inr r15))
      else
       some (.inl (IntKind.wrap .i64 (y2 + 1)))
     else
      bif (j4 == 3) then
       (idx p1 y2).bind fun x16 =>
       (idx p2 y2).bind fun x17 =>
       (eJ fuel x16 x17).bind fun r18 =>
       bif (r18 != 0) then
        some (.inr (.inr r18))
       else
        some (.inl (IntKind.wrap .i64 (y2 + 1)))
      else
       none) fun jp5 =>
  (idx p0.Down y2).bind fun x6 =>
  bif x6 then
   jp5 (IntKind.wrap .i64 ((IntKind.wrap .i64 (2 * (IntKind.wrap .i64 (x3 - 1)))) + 1))
  else
   jp5 (IntKind.wrap .i64 (2 * (IntKind.wrap .i64 (x3 - 1))))
 else
  some (.inr (.inl ()))
def lr (fuel : Nat) (p0 : ah) (p1 : (List Value)) (p2 : (List Value)) : Option (Int) :=
 (iJ fuel).bind fun r1 =>
 (iter (iV fuel p0 p1 p2) fuel 0).bind (Sum.elim (fun v20 =>
  some 0) (fun r21 =>
  some r21))
def Z96 (x0 : Int) (x1 : ah) : SV := vB (decide (x0 < (x1.aq.length : Int)))
def K11 := fun a0 a1 a2 (t : SL) => ((1, Z13 a0) :: (2, Z13 a1) :: (3, Z1 a2) :: t : SL)
def K22 := fun a0 a1 a2 a3 a4 (t : SL) => ((1, Z13 a0) :: (2, Z13 a1) :: (3, Z1 a2) :: (7, Z86) :: (14, Z24 a3) :: (15, Z37 a4) :: t : SL)
def K30 := fun a0 a1 a2 a3 a4 a5 a6 (t : SL) => ((1, Z13 a0) :: (2, Z13 a1) :: (3, Z1 a2) :: (7, Z86) :: (8, vI a3) :: (14, Z24 a4) :: (15, Z37 a5) :: (16, vI a6) :: t : SL)
def K51 := fun a0 a1 a2 a3 a4 a5 a6 (t : SL) => ((1, Z13 a0) :: (2, Z13 a1) :: (3, Z1 a2) :: (7, Z86) :: (11, vI a3) :: (14, Z24 a4) :: (15, Z37 a5) :: (16, vI a6) :: t : SL)
def K103 := fun a0 a1 a2 a3 a4 a5 a6 a7 (t : SL) => ((1, Z13 a0) :: (2, Z13 a1) :: (3, Z1 a2) :: (7, Z86) :: (8, vI a3) :: (10, Z89 a4) :: (14, Z24 a5) :: (15, Z37 a6) :: (16, vI a7) :: t : SL)
theorem mP {fuel : Nat} {p0 : ah} {p1 : (List Value)} {p2 : (List Value)} {r : Int} (h : lr fuel p0 p1 p2 = some r) : PC Try.prog 46 [.d (bo p0), .d (.list 3 (List.map ag p1)), .d (.list 3 (List.map ag p2))] (vI r) := by
 refine PC.br Try.func46 rfl fun H => ?_
 unfold lr at h
 refine SW.kp 47 H [0, 1, 2] [(0, Z23 p0), (1, Z13 p1), (2, Z13 p2)] (by kernel_rfl) <| SW.R 1 (K11 p1 p2 p0 []) <| SW.S ?_
 obtain ⟨r1, hr, h⟩ := aa h
 refine OWk.C0 (some 12) (K11 p1 p2 p0 [(12, Z87)]) (mS hr) <| OWk.G 2 (K11 p1 p2 p0 [(7, Z86)]) <| OWk.E <| SW.seq <| SW.S <| OWk.G 2 (K11 p1 p2 p0 [(7, Z86), (14, Z24 p0)]) <| OWk.O (d := some 15) (K22 p1 p2 p0 p0 p0 []) (BAt.len (enc := (D.int .i64)) (xs := p0.aq) (by kernel_rfl)) <| OWk.G 1 (K22 p1 p2 p0 p0 p0 [(16, vI 0)]) <| OWk.E <| SW.block ?_
 obtain ⟨z19, hit, h⟩ := aa h
 refine SW.it 47 H [1, 2, 3, 7, 14, 15, 16] (fun y2 => (K22 p1 p2 p0 p0 p0 [(16, vI y2)])) (fun b e s => ((∃ v20, b = (.inl v20) ∧ (e = .exit 0 ∧ s = (sp 47 [] H))) ∨ (∃ r21, b = (.inr r21) ∧ (e = .ret ∧ aA Try.prog Try.f46.results.toList H (vI r21) .ret s)))) hit (by kernel_rfl) (fun y2 o h => ?_) ?_
 ·unfold iV at h
  refine SW.R 1 (K22 p1 p2 p0 p0 p0 [(16, vI y2), (17, Z96 y2 p0)]) <| SW.seq ?_
  refine SW.B (decide (y2 < (p0.aq.length : Int))) (fun hc => ?_) (fun hc => ?_)
  ·replace h := an hc h
   refine SW.skip <| ad <| SW.seq <| SW.block <| SW.S <| OWk.G 1 (K22 p1 p2 p0 p0 p0 [(16, vI y2), (18, vI y2)]) ?_
   obtain ⟨x3, hx, h⟩ := aa h
   refine OWk.O (d := some 19) (s := aO none (Go.Sh.D.cells ((D.int .i64) x3))) (K22 p1 p2 p0 p0 p0 [(16, vI y2), (18, vI y2), (19, .d (.aR [.int .i64 x3]))]) (BAt.index (n := 1) hx (by kernel_rfl)) <| OWk.G 3 (K11 p1 p2 p0 [(7, Z86), (8, vI y2), (9, vI x3), (14, Z24 p0), (15, Z37 p0), (16, vI y2)]) <| OWk.E <| SW.R 1 (K103 p1 p2 p0 y2 x3 p0 p0 y2 []) ?_
   obtain ⟨jp5, hjjp5, h⟩ := bt h
   refine SW.jn 47 H [1, 2, 3, 7, 8, 10, 14, 15, 16] (fun (j4 : Int) => (K11 p1 p2 p0 [(7, Z86), (8, vI y2), (10, vI j4), (14, Z24 p0), (15, Z37 p0), (16, vI y2)])) (fun v => jp5 v = some o) (fun j4 h => ?_) ?_
   ·rw [hjjp5] at h
    refine SW.seq <| SW.cw (by kernel_rfl) (by kernel_rfl) <| OQk.G 1 (K30 p1 p2 p0 y2 p0 p0 y2 [(31, vI j4)]) ?_
    rcases hc : (j4 == 0) with _ | _
    ·replace h := ao hc h
     rcases hc : (j4 == 1) with _ | _
     ·replace h := ao hc h
      rcases hc : (j4 == 2) with _ | _
      ·replace h := ao hc h
       rcases hc : (j4 == 3) with _ | _
       ·replace h := ao hc h
        cases h
       ·replace h := an hc h
        refine OQk.lit (fun e => (sp 47 (K30 p1 p2 p0 y2 p0 p0 y2 [(31, vI e)]) H)) (by kernel_rfl) hc <| OQk.G 4 (K30 p1 p2 p0 y2 p0 p0 y2 [(33, Z95), (34, Z13 p1), (35, vI y2)]) ?_
        obtain ⟨x16, hx, h⟩ := aa h
        refine OQk.on 47 H (d := some 36) (s := aO none (Go.Sh.D.cells (ag x16))) [1, 2, 3, 7, 8, 14, 15, 16, 33, 36] (K30 p1 p2 p0 y2 p0 p0 y2 [(33, Z95), (36, .d (.aR [.int .i64 x16.Kind, .int .i64 x16.N, .str x16.S]))]) (BAt.index (n := 3) hx (by kernel_rfl)) (by kernel_rfl) <| OQk.G 3 (K22 p1 p2 p0 p0 p0 [(16, vI y2), (33, Z95), (37, Z58 x16), (38, Z13 p2), (39, vI y2)]) ?_
        obtain ⟨x17, hx, h⟩ := aa h
        refine OQk.on 47 H (d := some 40) (s := aO none (Go.Sh.D.cells (ag x17))) [1, 2, 3, 7, 14, 15, 16, 33, 37, 40] (K22 p1 p2 p0 p0 p0 [(16, vI y2), (33, Z95), (37, Z58 x16), (40, .d (.aR [.int .i64 x17.Kind, .int .i64 x17.N, .str x17.S]))]) (BAt.index (n := 3) hx (by kernel_rfl)) (by kernel_rfl) <| OQk.G 1 (K22 p1 p2 p0 p0 p0 [(16, vI y2), (33, Z95), (37, Z58 x16), (41, Z58 x17)]) ?_
        obtain ⟨r18, hr, h⟩ := aa h
        refine OQk.cl 47 H (d := some 42) (ls := []) [1, 2, 3, 7, 14, 15, 16, 42] (K22 p1 p2 p0 p0 p0 [(16, vI y2), (42, vI r18)]) (ly hr) (by kernel_rfl) (by kernel_rfl) (by kernel_rfl) <| OQk.G 1 (K51 p1 p2 p0 r18 p0 p0 y2 []) <| OQk.done (by kernel_rfl) <| ad <| SW.R 1 (K51 p1 p2 p0 r18 p0 p0 y2 [(44, vB (r18 != 0))]) ?_
        refine SW.B (r18 != 0) (fun hc => ?_) (fun hc => ?_)
        ·replace h := an hc h
         refine SW.R 1 [(6, vI r18)] <| SW.ret <| ax <| af ?_
         cases h
         refine af ?_
         exact ⟨_, rfl, .inr (⟨r18, rfl, rfl, aA.ret [] (by kernel_rfl) rfl⟩)⟩
        ·replace h := ao hc h
         refine SW.skip <| aH <| ad <| SW.au <| OWk.G 2 (K22 p1 p2 p0 p0 p0 [(16, Z18 y2)]) <| OWk.D ?_
         cases h
         exact ⟨(IntKind.wrap .i64 (y2 + 1)), rfl, by kernel_rfl⟩
      ·replace h := an hc h
       refine OQk.lit (fun e => (sp 47 (K30 p1 p2 p0 y2 p0 p0 y2 [(31, vI e)]) H)) (by kernel_rfl) hc <| OQk.G 4 (K30 p1 p2 p0 y2 p0 p0 y2 [(33, Z94), (34, Z13 p1), (35, vI y2)]) ?_
       obtain ⟨x13, hx, h⟩ := aa h
       refine OQk.on 47 H (d := some 36) (s := aO none (Go.Sh.D.cells (ag x13))) [1, 2, 3, 7, 8, 14, 15, 16, 33, 36] (K30 p1 p2 p0 y2 p0 p0 y2 [(33, Z94), (36, .d (.aR [.int .i64 x13.Kind, .int .i64 x13.N, .str x13.S]))]) (BAt.index (n := 3) hx (by kernel_rfl)) (by kernel_rfl) <| OQk.G 3 (K22 p1 p2 p0 p0 p0 [(16, vI y2), (33, Z94), (37, Z58 x13), (38, Z13 p2), (39, vI y2)]) ?_
       obtain ⟨x14, hx, h⟩ := aa h
       refine OQk.on 47 H (d := some 40) (s := aO none (Go.Sh.D.cells (ag x14))) [1, 2, 3, 7, 14, 15, 16, 33, 37, 40] (K22 p1 p2 p0 p0 p0 [(16, vI y2), (33, Z94), (37, Z58 x13), (40, .d (.aR [.int .i64 x14.Kind, .int .i64 x14.N, .str x14.S]))]) (BAt.index (n := 3) hx (by kernel_rfl)) (by kernel_rfl) <| OQk.G 1 (K22 p1 p2 p0 p0 p0 [(16, vI y2), (33, Z94), (37, Z58 x13), (41, Z58 x14)]) ?_
       obtain ⟨r15, hr, h⟩ := aa h
       refine OQk.cl 47 H (d := some 42) (ls := []) [1, 2, 3, 7, 14, 15, 16, 42] (K22 p1 p2 p0 p0 p0 [(16, vI y2), (42, vI r15)]) (lz hr) (by kernel_rfl) (by kernel_rfl) (by kernel_rfl) <| OQk.G 1 (K51 p1 p2 p0 r15 p0 p0 y2 []) <| OQk.done (by kernel_rfl) <| ad <| SW.R 1 (K51 p1 p2 p0 r15 p0 p0 y2 [(44, vB (r15 != 0))]) ?_
       refine SW.B (r15 != 0) (fun hc => ?_) (fun hc => ?_)
       ·replace h := an hc h
        refine SW.R 1 [(6, vI r15)] <| SW.ret <| ax <| af ?_
        cases h
        refine af ?_
        exact ⟨_, rfl, .inr (⟨r15, rfl, rfl, aA.ret [] (by kernel_rfl) rfl⟩)⟩
       ·replace h := ao hc h
        refine SW.skip <| aH <| ad <| SW.au <| OWk.G 2 (K22 p1 p2 p0 p0 p0 [(16, Z18 y2)]) <| OWk.D ?_
        cases h
        exact ⟨(IntKind.wrap .i64 (y2 + 1)), rfl, by kernel_rfl⟩
     ·replace h := an hc h
      refine OQk.lit (fun e => (sp 47 (K30 p1 p2 p0 y2 p0 p0 y2 [(31, vI e)]) H)) (by kernel_rfl) hc <| OQk.G 4 (K30 p1 p2 p0 y2 p0 p0 y2 [(33, Z93), (34, Z13 p1), (35, vI y2)]) ?_
      obtain ⟨x10, hx, h⟩ := aa h
      refine OQk.on 47 H (d := some 36) (s := aO none (Go.Sh.D.cells (ag x10))) [1, 2, 3, 7, 8, 14, 15, 16, 33, 36] (K30 p1 p2 p0 y2 p0 p0 y2 [(33, Z93), (36, .d (.aR [.int .i64 x10.Kind, .int .i64 x10.N, .str x10.S]))]) (BAt.index (n := 3) hx (by kernel_rfl)) (by kernel_rfl) <| OQk.G 3 (K22 p1 p2 p0 p0 p0 [(16, vI y2), (33, Z93), (37, Z58 x10), (38, Z13 p2), (39, vI y2)]) ?_
      obtain ⟨x11, hx, h⟩ := aa h
      refine OQk.on 47 H (d := some 40) (s := aO none (Go.Sh.D.cells (ag x11))) [1, 2, 3, 7, 14, 15, 16, 33, 37, 40] (K22 p1 p2 p0 p0 p0 [(16, vI y2), (33, Z93), (37, Z58 x10), (40, .d (.aR [.int .i64 x11.Kind, .int .i64 x11.N, .str x11.S]))]) (BAt.index (n := 3) hx (by kernel_rfl)) (by kernel_rfl) <| OQk.G 1 (K22 p1 p2 p0 p0 p0 [(16, vI y2), (33, Z93), (37, Z58 x10), (41, Z58 x11)]) ?_
      obtain ⟨r12, hr, h⟩ := aa h
      refine OQk.cl 47 H (d := some 42) (ls := []) [1, 2, 3, 7, 14, 15, 16, 42] (K22 p1 p2 p0 p0 p0 [(16, vI y2), (42, vI r12)]) (lA hr) (by kernel_rfl) (by kernel_rfl) (by kernel_rfl) <| OQk.G 1 (K51 p1 p2 p0 r12 p0 p0 y2 []) <| OQk.done (by kernel_rfl) <| ad <| SW.R 1 (K51 p1 p2 p0 r12 p0 p0 y2 [(44, vB (r12 != 0))]) ?_
      refine SW.B (r12 != 0) (fun hc => ?_) (fun hc => ?_)
      ·replace h := an hc h
       refine SW.R 1 [(6, vI r12)] <| SW.ret <| ax <| af ?_
       cases h
       refine af ?_
       exact ⟨_, rfl, .inr (⟨r12, rfl, rfl, aA.ret [] (by kernel_rfl) rfl⟩)⟩
      ·replace h := ao hc h
       refine SW.skip <| aH <| ad <| SW.au <| OWk.G 2 (K22 p1 p2 p0 p0 p0 [(16, Z18 y2)]) <| OWk.D ?_
       cases h
       exact ⟨(IntKind.wrap .i64 (y2 + 1)), rfl, by kernel_rfl⟩
    ·replace h := an hc h
     refine OQk.lit (fun e => (sp 47 (K30 p1 p2 p0 y2 p0 p0 y2 [(31, vI e)]) H)) (by kernel_rfl) hc <| OQk.G 4 (K30 p1 p2 p0 y2 p0 p0 y2 [(33, Z91), (34, Z13 p1), (35, vI y2)]) ?_
     obtain ⟨x7, hx, h⟩ := aa h
     refine OQk.on 47 H (d := some 36) (s := aO none (Go.Sh.D.cells (ag x7))) [1, 2, 3, 7, 8, 14, 15, 16, 33, 36] (K30 p1 p2 p0 y2 p0 p0 y2 [(33, Z91), (36, .d (.aR [.int .i64 x7.Kind, .int .i64 x7.N, .str x7.S]))]) (BAt.index (n := 3) hx (by kernel_rfl)) (by kernel_rfl) <| OQk.G 3 (K22 p1 p2 p0 p0 p0 [(16, vI y2), (33, Z91), (37, Z58 x7), (38, Z13 p2), (39, vI y2)]) ?_
     obtain ⟨x8, hx, h⟩ := aa h
     refine OQk.on 47 H (d := some 40) (s := aO none (Go.Sh.D.cells (ag x8))) [1, 2, 3, 7, 14, 15, 16, 33, 37, 40] (K22 p1 p2 p0 p0 p0 [(16, vI y2), (33, Z91), (37, Z58 x7), (40, .d (.aR [.int .i64 x8.Kind, .int .i64 x8.N, .str x8.S]))]) (BAt.index (n := 3) hx (by kernel_rfl)) (by kernel_rfl) <| OQk.G 1 (K22 p1 p2 p0 p0 p0 [(16, vI y2), (33, Z91), (37, Z58 x7), (41, Z58 x8)]) ?_
     obtain ⟨r9, hr, h⟩ := aa h
     refine OQk.cl 47 H (d := some 42) (ls := []) [1, 2, 3, 7, 14, 15, 16, 42] (K22 p1 p2 p0 p0 p0 [(16, vI y2), (42, vI r9)]) (lB hr) (by kernel_rfl) (by kernel_rfl) (by kernel_rfl) <| OQk.G 1 (K51 p1 p2 p0 r9 p0 p0 y2 []) <| OQk.done (by kernel_rfl) <| ad <| SW.R 1 (K51 p1 p2 p0 r9 p0 p0 y2 [(44, vB (r9 != 0))]) ?_
     refine SW.B (r9 != 0) (fun hc => ?_) (fun hc => ?_)
     ·replace h := an hc h
      refine SW.R 1 [(6, vI r9)] <| SW.ret <| ax <| af ?_
      cases h
      refine af ?_
      exact ⟨_, rfl, .inr (⟨r9, rfl, rfl, aA.ret [] (by kernel_rfl) rfl⟩)⟩
     ·replace h := ao hc h
      refine SW.skip <| aH <| ad <| SW.au <| OWk.G 2 (K22 p1 p2 p0 p0 p0 [(16, Z18 y2)]) <| OWk.D ?_
      cases h
      exact ⟨(IntKind.wrap .i64 (y2 + 1)), rfl, by kernel_rfl⟩
   ·refine SW.S <| OWk.G 3 (K103 p1 p2 p0 y2 x3 p0 p0 y2 [(25, Z27 p0), (26, vI y2)]) ?_
    obtain ⟨x6, hx, h⟩ := aa h
    refine OWk.O (d := some 27) (s := aO none (Go.Sh.D.cells (D.bool x6))) (K103 p1 p2 p0 y2 x3 p0 p0 y2 [(27, .d (.aR [.bool x6]))]) (BAt.index (n := 1) hx (by kernel_rfl)) <| OWk.G 1 (K103 p1 p2 p0 y2 x3 p0 p0 y2 [(28, vB x6)]) <| OWk.E ?_
    refine SW.B x6 (fun hc => ?_) (fun hc => ?_)
    ·replace h := an hc h
     refine SW.au <| OWk.G 3 (K11 p1 p2 p0 [(7, Z86), (8, vI y2), (10, Z90 x3), (14, Z24 p0), (15, Z37 p0), (16, vI y2)]) <| OWk.D ?_
     exact ⟨(IntKind.wrap .i64 ((IntKind.wrap .i64 (2 * (IntKind.wrap .i64 (x3 - 1)))) + 1)), [], by kernel_rfl, h⟩
    ·replace h := ao hc h
     refine SW.skip ?_
     exact ⟨(IntKind.wrap .i64 (2 * (IntKind.wrap .i64 (x3 - 1)))), [], by kernel_rfl, h⟩
  ·replace h := ao hc h
   refine SW.K [] <| SW.exit <| aJ ?_
   cases h
   refine aJ ?_
   exact ⟨_, rfl, .inl ⟨(), rfl, rfl, rfl⟩⟩
 ·rintro _ _ (⟨v20, rfl, rfl, rfl⟩ | ⟨r21, rfl, rfl, hE⟩)
  ·replace h := dO h
   refine aT <| ad <| SW.R 1 [(6, vI 0)] <| SW.ret ?_
   cases h
   exact aA.ret [] (by kernel_rfl) rfl
  ·replace h := dN h
   refine ax <| af ?_
   cases h
   exact hE
def fT (fuel : Nat) (p0 : ah) (p1 : Entry) (p2 : Entry) : Option (Int) :=
 (lr fuel p0 p1.Row p2.Row).bind fun r1 =>
 bif (r1 != 0) then
  some r1
 else
  bif (p0.Dup == 2) then
   some (IntKind.wrap .i64 (p2.Number - p1.Number))
  else
   some (IntKind.wrap .i64 (p1.Number - p2.Number))
def Z97 (x0 : Entry) (x1 : Entry) : SV := vI (IntKind.wrap .i64 (x0.Number - x1.Number))
def K72 := fun a0 a1 a2 (t : SL) => ((3, Z1 a0) :: (4, Z76 a1) :: (5, Z76 a2) :: t : SL)
theorem jj {fuel : Nat} {p0 : ah} {p1 : Entry} {p2 : Entry} {r : Int} (h : fT fuel p0 p1 p2 = some r) : PC Try.prog 22 [.d (bo p0), .d (ab p1), .d (ab p2)] (vI r) := by
 refine PC.br Try.func22 rfl fun H => ?_
 unfold fT at h
 refine SW.kp 30 H [0, 1, 2] [(0, Z23 p0), (1, Z77 p1), (2, Z77 p2)] (by kernel_rfl) <| SW.R 1 (K72 p0 p1 p2 []) <| SW.seq <| SW.S <| OWk.G 5 (K72 p0 p1 p2 [(8, Z23 p0), (10, Z84 p1), (12, Z84 p2)]) ?_
 obtain ⟨r1, hr, h⟩ := aa h
 refine OWk.C0 (some 13) (K72 p0 p1 p2 [(13, vI r1)]) (mP hr) <| OWk.G 1 (K72 p0 p1 p2 [(7, vI r1)]) <| OWk.E <| SW.R 1 (K72 p0 p1 p2 [(7, vI r1), (15, vB (r1 != 0))]) ?_
 refine SW.B (r1 != 0) (fun hc => ?_) (fun hc => ?_)
 ·replace h := an hc h
  refine SW.R 1 [(6, vI r1)] <| SW.ret <| af ?_
  cases h
  exact aA.ret [] (by kernel_rfl) rfl
 ·replace h := ao hc h
  refine SW.skip <| ad <| SW.seq <| SW.R 1 [(4, Z76 p1), (5, Z76 p2), (19, vB (p0.Dup == 2))] ?_
  refine SW.B (p0.Dup == 2) (fun hc => ?_) (fun hc => ?_)
  ·replace h := an hc h
   refine SW.R 1 [(6, Z97 p2 p1)] <| SW.ret <| af ?_
   cases h
   exact aA.ret [] (by kernel_rfl) rfl
  ·replace h := ao hc h
   refine SW.skip <| ad <| SW.R 1 [(6, Z97 p1 p2)] <| SW.ret ?_
   cases h
   exact aA.ret [] (by kernel_rfl) rfl
def iB (fuel : Nat) (p0 : Entry) (p1 : Entry) (p2 : (Option Nat)) (H : Hp) : Option (Int) :=
 p2.bind fun i1 =>
 (bg bu.cells H i1 0).bind fun x2 =>
 (fT fuel x2 p0 p1).bind fun r3 =>
 some r3
theorem jR {fuel : Nat} {p0 : Entry} {p1 : Entry} {p2 : (Option Nat)} {H : Hp} {r : Int} (h : iB fuel p0 p1 p2 H = some r) : SC Try.prog true 88 [.d (ab p0), .d (ab p1), .d (.aR [cP.enc p2])] H (vI r) H := by
 refine SC.gL Try.func88 rfl ?_
 unfold iB at h
 refine SW.kp 13 H [0, 1, 2] [(0, Z77 p0), (1, Z77 p1), (2, .d (.aR [cP.enc p2]))] (by kernel_rfl) <| SW.R 1 [(2, .d (.aR [cP.enc p2])), (3, Z76 p0), (4, Z76 p1)] <| SW.seq <| SW.cw (by kernel_rfl) (by kernel_rfl) <| OQk.G 1 [(3, Z76 p0), (4, Z76 p1), (6, .d (cP.enc p2))] ?_
 obtain ⟨i1, hp_i1, h⟩ := aa h
 refine OQk.on 13 H (d := some 7) (s := .d (.ptr i1 0)) [3, 4, 7] [(3, Z76 p0), (4, Z76 p1), (7, .d (.ptr i1 0))] (BAt.oe (p := p2) hp_i1 (by kernel_rfl)) (by kernel_rfl) <| OQk.G 1 [(3, Z76 p0), (4, Z76 p1), (8, .d (.ptr i1 0))] ?_
 obtain ⟨x2, hx, h⟩ := aa h
 refine OQk.on 13 H (d := some 9) (s := .d (.agg [.list 1 (List.map (D.int .i64) x2.aq), .list 1 (List.map D.bool x2.Down), .int .i64 x2.Dup])) [3, 4, 9] [(3, Z76 p0), (4, Z76 p1), (9, Z23 x2)] (BAt.ldH (c := bu.cells) hx (by kernel_rfl)) (by kernel_rfl) <| OQk.G 2 [(9, Z23 x2), (10, Z77 p0), (11, Z77 p1)] ?_
 obtain ⟨r3, hr, h⟩ := aa h
 refine OQk.cl 13 H (d := some 12) (ls := []) [12] [(12, vI r3)] (jj hr) (by kernel_rfl) (by kernel_rfl) (by kernel_rfl) <| OQk.G 1 [(5, vI r3)] <| OQk.done (by kernel_rfl) <| ad <| SW.ret ?_
 cases h
 exact aA.ret [] (by kernel_rfl) rfl
def cj (fuel : Nat) (p0 : (List Entry)) (p1 : Entry) (c2_0 : (Option Nat)) (H : Hp) (y1 : Int × Int) : Option ((Int × Int) ⊕ (Int)) :=
 bif (decide (y1.1 < y1.2)) then
  (idx p0 (IntKind.wrap .i64 (Int.fdiv (IntKind.wrap .u64 (IntKind.wrap .i64 (y1.1 + y1.2))) (2 ^ 1)))).bind fun x2 =>
  (iB fuel x2 p1 c2_0 H).bind fun r3 =>
  bif (decide (r3 < 0)) then
   some (.inl ((IntKind.wrap .i64 ((IntKind.wrap .i64 (Int.fdiv (IntKind.wrap .u64 (IntKind.wrap .i64 (y1.1 + y1.2))) (2 ^ 1))) + 1)), y1.2))
  else
   some (.inl (y1.1, (IntKind.wrap .i64 (Int.fdiv (IntKind.wrap .u64 (IntKind.wrap .i64 (y1.1 + y1.2))) (2 ^ 1)))))
 else
  some (.inr y1.1)
def bN (fuel : Nat) (p0 : (List Entry)) (p1 : Entry) (c2_0 : (Option Nat)) (H : Hp) : Option (Int × Bool) :=
 (iter (cj fuel p0 p1 c2_0 H) fuel (0, (p0.length : Int))).bind fun v5 =>
 bif (decide (v5 < (p0.length : Int))) then
  (idx p0 v5).bind fun x6 =>
  (iB fuel x6 p1 c2_0 H).bind fun r7 =>
  some (v5, (r7 == 0))
 else
  some (v5, false)
def Z99 (x0 : Int × Int) : SV := vB (decide (x0.1 < x0.2))
def tQ (x0 : Int × Int) : SV := vI (IntKind.wrap .i64 (Int.fdiv (IntKind.wrap .u64 (IntKind.wrap .i64 (x0.1 + x0.2))) (2 ^ 1)))
def Em (x0 : Int × Int) : SV := vI (IntKind.wrap .i64 ((IntKind.wrap .i64 (Int.fdiv (IntKind.wrap .u64 (IntKind.wrap .i64 (x0.1 + x0.2))) (2 ^ 1))) + 1))
def Ct (x0 : Int) (x1 : (List Entry)) : SV := vB (decide (x0 < (x1.length : Int)))
def K31 := fun a0 a1 a2 a3 (t : SL) => ((0, Z80 a0) :: (2, Z81 a1) :: (4, Z76 a2) :: (8, vI (a3 : Int)) :: t : SL)
theorem dI {fuel : Nat} {p0 : (List Entry)} {p1 : Entry} {c2_0 : (Option Nat)} {H : Hp} {r : Int × Bool} (h : bN fuel p0 p1 c2_0 H = some r) : SC Try.prog true 87 [.d (.list 3 (List.map ab p0)), .d (ab p1), .d (.fn (.func 88) [] [.aR [cP.enc c2_0]])] H (.tup [vI r.1, vB r.2]) H := by
 refine SC.gL Try.func87 rfl ?_
 unfold bN at h
 refine SW.kp 49 H [0, 1, 2] [(0, Z80 p0), (1, Z77 p1), (2, Z81 c2_0)] (by kernel_rfl) <| SW.R 1 [(0, Z80 p0), (2, Z81 c2_0), (4, Z76 p1)] <| SW.S <| OWk.G 1 [(0, Z80 p0), (2, Z81 c2_0), (4, Z76 p1), (12, Z80 p0)] <| OWk.O (d := some 13) [(0, Z80 p0), (2, Z81 c2_0), (4, Z76 p1), (13, vI (p0.length : Int))] (BAt.len (enc := ab) (xs := p0) (by kernel_rfl)) <| OWk.G 1 (K31 p0 c2_0 p1 p0.length []) <| OWk.E <| SW.R 1 (K31 p0 c2_0 p1 p0.length [(9, vI 0), (10, vI (p0.length : Int))]) <| SW.seq <| SW.block ?_
 obtain ⟨v5, hit, h⟩ := aa h
 refine SW.it 49 H [0, 2, 4, 8, 9, 10] (fun y1 => (K31 p0 c2_0 p1 p0.length [(9, vI y1.1), (10, vI y1.2)])) (fun v5 e s => (e = .exit 0 ∧ s = (sp 49 (K31 p0 c2_0 p1 p0.length [(9, vI v5)]) H))) hit (by kernel_rfl) (fun y1 o h => ?_) ?_
 ·unfold cj at h
  refine SW.seq <| SW.R 1 (K31 p0 c2_0 p1 p0.length [(9, vI y1.1), (10, vI y1.2), (17, Z99 y1)]) ?_
  refine SW.B (decide (y1.1 < y1.2)) (fun hc => ?_) (fun hc => ?_)
  ·replace h := an hc h
   refine SW.skip <| ad <| SW.block <| SW.R 1 (K31 p0 c2_0 p1 p0.length [(9, vI y1.1), (10, vI y1.2), (11, tQ y1)]) <| SW.seq <| SW.cw (by kernel_rfl) (by kernel_rfl) <| OQk.G 3 (K31 p0 c2_0 p1 p0.length [(9, vI y1.1), (10, vI y1.2), (11, tQ y1), (24, Z81 c2_0), (25, Z80 p0), (26, tQ y1)]) ?_
   obtain ⟨x2, hx, h⟩ := aa h
   refine OQk.on 49 H (d := some 27) (s := aO none (Go.Sh.D.cells (ab x2))) [0, 2, 4, 8, 9, 10, 11, 24, 27] (K31 p0 c2_0 p1 p0.length [(9, vI y1.1), (10, vI y1.2), (11, tQ y1), (24, Z81 c2_0), (27, .d (.aR [.list 3 (List.map ag x2.Row), .int .i64 x2.Key, .int .i64 x2.Number]))]) (BAt.index (n := 3) hx (by kernel_rfl)) (by kernel_rfl) <| OQk.G 2 (K31 p0 c2_0 p1 p0.length [(9, vI y1.1), (10, vI y1.2), (11, tQ y1), (24, Z81 c2_0), (28, Z77 x2), (29, Z77 p1)]) ?_
   obtain ⟨r3, hr, h⟩ := aa h
   refine OQk.CR (ls := []) (some 30) (K31 p0 c2_0 p1 p0.length [(9, vI y1.1), (10, vI y1.2), (11, tQ y1), (30, vI r3)]) (jR hr) <| OQk.G 1 (K31 p0 c2_0 p1 p0.length [(9, vI y1.1), (10, vI y1.2), (11, tQ y1), (31, vB (decide (r3 < 0)))]) <| OQk.done (by kernel_rfl) <| ad ?_
   refine SW.B (decide (r3 < 0)) (fun hc => ?_) (fun hc => ?_)
   ·replace h := an hc h
    refine SW.au <| OWk.G 3 (K31 p0 c2_0 p1 p0.length [(9, Em y1), (10, vI y1.2)]) <| OWk.D <| aH ?_
    cases h
    exact ⟨((IntKind.wrap .i64 ((IntKind.wrap .i64 (Int.fdiv (IntKind.wrap .u64 (IntKind.wrap .i64 (y1.1 + y1.2))) (2 ^ 1))) + 1)), y1.2), rfl, by kernel_rfl⟩
   ·replace h := ao hc h
    refine SW.au <| OWk.G 2 (K31 p0 c2_0 p1 p0.length [(9, vI y1.1), (10, tQ y1)]) <| OWk.D <| aH ?_
    cases h
    exact ⟨(y1.1, (IntKind.wrap .i64 (Int.fdiv (IntKind.wrap .u64 (IntKind.wrap .i64 (y1.1 + y1.2))) (2 ^ 1)))), rfl, by kernel_rfl⟩
  ·replace h := ao hc h
   refine SW.K (K31 p0 c2_0 p1 p0.length [(9, vI y1.1)]) <| SW.exit <| aJ ?_
   cases h
   refine aJ ?_
   exact ⟨_, rfl, ⟨rfl, rfl⟩⟩
 ·rintro _ _ ⟨rfl, rfl⟩
  refine aT <| ad <| SW.seq <| SW.cw (by kernel_rfl) (by kernel_rfl) <| OQk.G 5 [(0, Z80 p0), (2, Z81 c2_0), (4, Z76 p1), (9, vI v5), (35, vI v5), (39, Ct v5 p0)] ?_
  refine OQk.case (decide (v5 < (p0.length : Int))) (fun b => (sp 49 [(0, Z80 p0), (2, Z81 c2_0), (4, Z76 p1), (9, vI v5), (35, vI v5), (39, vB b)] H)) (by kernel_rfl) (fun hc => ?_) (fun hc => ?_)
  ·replace h := an hc h
   refine OQk.G 3 [(4, Z76 p1), (35, vI v5), (39, vB true), (40, Z81 c2_0), (41, Z80 p0), (42, vI v5)] ?_
   obtain ⟨x6, hx, h⟩ := aa h
   refine OQk.on 49 H (d := some 43) (s := aO none (Go.Sh.D.cells (ab x6))) [4, 35, 39, 40, 43] [(4, Z76 p1), (35, vI v5), (39, vB true), (40, Z81 c2_0), (43, .d (.aR [.list 3 (List.map ag x6.Row), .int .i64 x6.Key, .int .i64 x6.Number]))] (BAt.index (n := 3) hx (by kernel_rfl)) (by kernel_rfl) <| OQk.G 2 [(35, vI v5), (39, vB true), (40, Z81 c2_0), (44, Z77 x6), (45, Z77 p1)] ?_
   obtain ⟨r7, hr, h⟩ := aa h
   refine OQk.CR (ls := []) (some 46) [(35, vI v5), (39, vB true), (46, vI r7)] (jR hr) <| OQk.G 4 [(6, vI v5), (7, vB (r7 == 0))] <| OQk.done (by kernel_rfl) <| ad <| SW.ret ?_
   cases h
   exact aA.ret [] (by kernel_rfl) rfl
  ·replace h := ao hc h
   refine OQk.G 11 [(6, vI v5), (7, vB false)] <| OQk.done (by kernel_rfl) <| ad <| SW.ret ?_
   cases h
   exact aA.ret [] (by kernel_rfl) rfl
def mU (fuel : Nat) (p0 : Nat) (p1 : Nat) (p2 : Entry) (H : Hp) : Option (Int × Bool) :=
 (cp 3 aK H p1 0).bind fun x1 =>
 (bN fuel x1 p2 (some p0) (px [(.ai p1 0)] H)).bind fun r2 =>
 some (r2.1, r2.2)
def K26 := fun a0 a1 (t : SL) => ((0, .d (.ptr a0 0)) :: (1, .d (.ptr a1 0)) :: t : SL)
theorem rC {fuel : Nat} {p0 : Nat} {p1 : Nat} {p2 : Entry} {H : Hp} {r : Int × Bool} (h : mU fuel p0 p1 p2 H = some r) : SC Try.prog true 71 [.d (.ptr p0 0), .d (.ptr p1 0), .d (ab p2)] H (.tup [vI r.1, vB r.2]) H := by
 refine SC.gL Try.func71 rfl ?_
 unfold mU at h
 refine SW.kp 18 H [0, 1, 2] (K26 p0 p1 [(2, Z77 p2)]) (by kernel_rfl) <| SW.S <| OWk.bxf 18 H (d := 3) (ds := [.ptr p0 0]) [1, 2, 3] [(1, .d (.ptr p1 0)), (2, Z77 p2), (3, .d (.aR [.ptr p0 0]))] (by kernel_rfl) (by kernel_rfl) <| OWk.G 3 [(1, .d (.ptr p1 0)), (3, .d (.aR [.ptr p0 0])), (5, Z76 p2)] <| OWk.E <| SW.seq <| SW.cw (by kernel_rfl) (by kernel_rfl) <| OQk.G 4 [(3, .d (.aR [.ptr p0 0])), (5, Z76 p2), (11, .d (.ptr p1 0))] ?_
 obtain ⟨x1, hx, h⟩ := aa h
 refine OQk.on 18 H (d := some 12) (s := .bf (.ai p1 0) 3 (List.map ab x1)) [3, 5, 12] [(3, .d (.aR [.ptr p0 0])), (5, Z76 p2), (12, Z78 p1 x1)] (BAt.ldL (c := aK) hx (by kernel_rfl)) (by kernel_rfl) <| OQk.G 2 [(12, Z78 p1 x1), (13, Z77 p2), (14, Z79 p0)] ?_
 obtain ⟨r2, hr, h⟩ := aa h
 refine OQk.CR (ls := [(.ai p1 0)]) (some 15) [(15, .tup [vI r2.1, vB r2.2])] (dI hr) <| OQk.G 4 [(6, vI r2.1), (7, vB r2.2)] <| OQk.done (by kernel_rfl) <| ad <| SW.ret ?_
 cases h
 exact aA.ret [] (by kernel_rfl) rfl
def dh (fuel : Nat) (p0 : Nat) (H : Hp) : Option (Bool) :=
 (cp 1 cP H p0 1).bind fun x1 =>
 some ((x1.length : Int) == 0)
def Cs (x0 : (List (Option Nat))) : SV := vB ((x0.length : Int) == 0)
def zO (x0 : Nat) (x1 : (List (Option Nat))) : SV := .bf (.ai x0 1) 1 (List.map cP.enc x1)
theorem fq {fuel : Nat} {p0 : Nat} {H : Hp} {r : Bool} (h : dh fuel p0 H = some r) : SC Try.prog true 58 [.d (.ptr p0 0)] H (vB r) H := by
 refine SC.gL Try.func58 rfl ?_
 unfold dh at h
 refine SW.kp 9 H [0] [(0, .d (.ptr p0 0))] (by kernel_rfl) <| SW.R 1 [(0, .d (.ptr p0 0))] <| SW.S <| OWk.G 3 [(5, .d (.ptr p0 1))] ?_
 obtain ⟨x1, hx, h⟩ := aa h
 refine OWk.O (d := some 6) (s := .bf (.ai p0 1) 1 (List.map cP.enc x1)) [(6, zO p0 x1)] (BAt.ldL (c := cP) hx (by kernel_rfl)) <| OWk.O (d := some 7) [(7, vI (x1.length : Int))] (BAt.len (enc := cP.enc) (xs := x1) (by kernel_rfl)) <| OWk.G 2 [(2, Cs x1)] <| OWk.E <| SW.ret ?_
 cases h
 exact aA.ret [] (by kernel_rfl) rfl
def gi (fuel : Nat) (p0 : (List Entry)) (p1 : Int) (p2 : (List Entry)) : Option ((List Entry)) :=
 chk (sG p0 p1 (p0.length : Int)) <|
 bif ((p2.length : Int) == 0) then
  some p0
 else
  bif (p1 == (p0.length : Int)) then
   chk (decide ((p0 ++ p2).length ≤ room)) <|
   some (p0 ++ p2)
  else
   chk (decide (0 ≤ p1) && decide (p1 < (p0.length : Int)) && decide (0 < p2.length) && decide (p0.length + p2.length ≤ room)) <|
   some (List.take (Int.toNat p1) p0 ++ p2 ++ List.drop (Int.toNat p1) p0)
def eI (x0 : (List Entry)) : SV := .own 3 (List.map ab x0)
def Cr (x0 : (List Entry)) : SV := .bf (.slot 0) 3 (List.map ab x0)
def El (x0 : (List Entry)) : SV := vB ((x0.length : Int) == 0)
def Ek (x0 : Int) (x1 : (List Entry)) : SV := vB (x0 == (x1.length : Int))
def yG (x0 : (List Entry)) (x1 : (List Entry)) : SV := .own 3 (List.map ab (x0 ++ x1))
def K57 := fun a0 a1 a2 (t : SL) => ((0, eI a0) :: (1, vI a1) :: (2, Z80 a2) :: t : SL)
theorem iX {fuel : Nat} {p0 : (List Entry)} {p1 : Int} {p2 : (List Entry)} {r : (List Entry)} (h : gi fuel p0 p1 p2 = some r) : PC Try.prog 72 [.own 3 (List.map ab p0), vI p1, .d (.list 3 (List.map ab p2))] (.own 3 (List.map ab r)) := by
 refine PC.br Try.func72 rfl fun H => ?_
 unfold gi at h
 refine SW.kp 95 H [0, 1, 2] (K57 p0 p1 p2 []) (by kernel_rfl) <| SW.R 1 (K57 p0 p1 p2 []) <| SW.S <| OWk.G 2 (K57 p0 p1 p2 [(10, Cr p0), (11, vI p1)]) ?_
 obtain ⟨hk, h⟩ := bH h
 refine OWk.O (d := some 12) (s := kj (some (.slot 0)) 3 (List.map ab (sl p0 p1 (p0.length : Int)))) (K57 p0 p1 p2 []) (BAt.slice hk (by kernel_rfl)) <| OWk.E <| SW.S <| OWk.G 1 (K57 p0 p1 p2 [(13, Z80 p2)]) <| OWk.O (d := some 14) (K57 p0 p1 p2 [(14, vI (p2.length : Int))]) (BAt.len (enc := ab) (xs := p2) (by kernel_rfl)) <| OWk.G 1 (K57 p0 p1 p2 [(7, vI (p2.length : Int))]) <| OWk.E <| SW.seq <| SW.R 1 (K57 p0 p1 p2 [(7, vI (p2.length : Int)), (16, El p2)]) ?_
 refine SW.B ((p2.length : Int) == 0) (fun hc => ?_) (fun hc => ?_)
 ·replace h := an hc h
  refine SW.S <| OWk.sg 95 H [17] [6] 2 [(6, eI p0)] (by kernel_rfl) <| OWk.E <| SW.ret <| af ?_
  cases h
  exact aA.ret [] (by kernel_rfl) rfl
 ·replace h := ao hc h
  refine SW.skip <| ad <| SW.S <| OWk.G 1 (K57 p0 p1 p2 [(7, vI (p2.length : Int)), (18, Cr p0)]) <| OWk.O (d := some 19) (K57 p0 p1 p2 [(7, vI (p2.length : Int)), (19, vI (p0.length : Int))]) (BAt.len (enc := ab) (xs := p0) (by kernel_rfl)) <| OWk.G 1 (K57 p0 p1 p2 [(7, vI (p2.length : Int)), (8, vI (p0.length : Int))]) <| OWk.E <| SW.seq <| SW.R 1 (K57 p0 p1 p2 [(7, vI (p2.length : Int)), (8, vI (p0.length : Int)), (22, Ek p1 p0)]) ?_
  refine SW.B (p1 == (p0.length : Int)) (fun hc => ?_) (fun hc => ?_)
  ·replace h := an hc h
   refine SW.S <| OWk.sg 95 H [23] [23, 24] 2 [(23, eI p0), (24, Z80 p2)] (by kernel_rfl) ?_
   obtain ⟨hk, h⟩ := bH h
   refine OWk.app 95 H (s := 23) (d := 25) (w := 3) [25] (zs := List.map ab (p0 ++ p2)) [(25, yG p0 p2)] (ys := (List.map ab p2)) (by kernel_rfl) (aY) (bY hk) (by kernel_rfl) <| OWk.sg 95 H [23] [6] 1 [(6, yG p0 p2)] (by kernel_rfl) <| OWk.E <| SW.ret <| af ?_
   cases h
   exact aA.ret [] (by kernel_rfl) rfl
  ·replace h := ao hc h
   refine SW.skip <| ad ?_
   obtain ⟨hk, h⟩ := bH h
   refine SW.K (K57 p0 p1 p2 [(7, vI (p2.length : Int)), (8, vI (p0.length : Int))]) ?_
   obtain ⟨hT, ti, z, zd, hi, hz, hzd, hzn, hsz, hn, hby⟩ := pT (P := Try.prog) (T := 38) (e := 28) (n := 3) (by kernel_rfl)
   refine SW.BD (enc := ab) (xs := p0) (ys := p2) (i := p1) (T := 38) (I := 3) (B := 4) (fo := 89) (ik := .i64) hk hT (by kernel_rfl) hi hz hzd hzn hsz hn hby (fun args w => run_callFunc_extern Try.func89 (by kernel_rfl) (by kernel_rfl) (by kernel_rfl) (by kernel_rfl) args w) (by kernel_rfl) (by kernel_rfl) (by kernel_rfl) ⟨rfl, rfl, rfl⟩ ⟨rfl, rfl, rfl⟩ ⟨rfl, rfl, rfl⟩ ⟨rfl, rfl, rfl⟩ ⟨rfl, rfl, rfl⟩ ⟨rfl, rfl, rfl⟩ ⟨rfl, rfl, rfl⟩ ⟨rfl, rfl, rfl⟩ ⟨rfl, rfl, rfl⟩ ⟨rfl, rfl, rfl⟩ ⟨rfl, rfl, rfl⟩ ⟨rfl, rfl, rfl⟩ ⟨rfl, rfl, rfl⟩ ⟨rfl, rfl, rfl⟩ ⟨rfl, rfl, rfl⟩ ⟨rfl, rfl, rfl⟩ ⟨rfl, rfl, rfl⟩ ⟨rfl, rfl, rfl⟩ ⟨rfl, rfl, rfl⟩ ⟨rfl, rfl, rfl⟩ ⟨rfl, rfl, rfl⟩ ⟨rfl, rfl, rfl⟩ ⟨rfl, rfl, rfl⟩ ⟨rfl, rfl, rfl⟩ ⟨rfl, rfl, rfl⟩ ⟨rfl, rfl, rfl⟩ ⟨rfl, rfl, rfl⟩ ⟨rfl, rfl, rfl⟩ ⟨rfl, rfl, rfl⟩ ⟨rfl, rfl, rfl⟩ ⟨rfl, rfl, rfl⟩ ⟨rfl, rfl, rfl⟩ ⟨rfl, rfl, rfl⟩ ⟨rfl, rfl, rfl⟩ ⟨rfl, rfl, rfl⟩ ⟨rfl, rfl, rfl⟩ ⟨rfl, rfl, rfl⟩ ⟨rfl, rfl, rfl⟩ ⟨rfl, rfl, rfl⟩ ⟨rfl, rfl, rfl⟩ ⟨rfl, rfl, rfl⟩ ⟨rfl, rfl, rfl⟩ ⟨rfl, rfl, rfl⟩ ⟨rfl, rfl, rfl⟩ ⟨rfl, rfl, rfl⟩ ⟨rfl, rfl, rfl⟩ ⟨rfl, rfl, rfl⟩ ⟨rfl, rfl, rfl⟩ ⟨rfl, rfl, rfl⟩ ⟨rfl, rfl, rfl⟩ ⟨rfl, rfl, rfl⟩ ⟨rfl, rfl, rfl⟩ ⟨rfl, rfl, rfl⟩ ⟨rfl, rfl, rfl⟩ ⟨rfl, rfl, rfl⟩ ⟨rfl, rfl, rfl⟩ ⟨rfl, rfl, rfl⟩ ⟨rfl, rfl, rfl⟩ ⟨rfl, rfl, rfl⟩ ⟨rfl, rfl, rfl⟩ ⟨rfl, rfl, rfl⟩ ⟨rfl, rfl, rfl⟩ ?_
   cases h
   exact aA.ret [] (by kernel_rfl) rfl
def eb (fuel : Nat) (p0 : (List Entry)) : Option ((List Entry)) :=
 uF p0 fun b1 =>
 bif b1 then
  some ([] : List Entry)
 else
  chk (decide ((([] : List Entry) ++ p0).length ≤ room)) <|
  some (([] : List Entry) ++ p0)
def iy (x0 : ((List Entry) × Hp)) : SV := .own 3 (List.map ab x0.1)
def gI (x0 : Entry) : SV := .own 3 (List.map ab [x0])
def mJ (x0 : Entry) : SV := .d (.list 3 (List.map ab [x0]))
def Cq (x0 : (List Entry)) (x1 : Int) : SV := vB (decide ((x0.length : Int) > x1))
def oA : SV := .box [.d (.bW), vI 0, vI 0]
def zN : SV := .own 3 (List.map ab ([] : List Entry))
def Cp (x0 : (List Entry)) : SV := .own 3 (List.map ab (([] : List Entry) ++ x0))
theorem gR {fuel : Nat} {p0 : (List Entry)} {r : (List Entry)} (h : eb fuel p0 = some r) : PC Try.prog 74 [.d (.list 3 (List.map ab p0))] (.own 3 (List.map ab r)) := by
 refine PC.br Try.func74 rfl fun H => ?_
 unfold eb at h
 refine SW.kp 8 H [0] [(0, Z80 p0)] (by kernel_rfl) <| SW.R 1 [(0, Z80 p0)] <| SW.seq <| SW.S <| OWk.G 1 [(0, Z80 p0), (3, Z80 p0)] ?_
 refine OWk.xD (xs := List.map ab p0) (d := some 4) (e := true) 8 H [0, 4] (fun b1 => [(0, Z80 p0), (4, vB b1)]) (by kernel_rfl) (fun _ => by kernel_rfl) (fun b1 hnil => ?_)
 replace h := ke h b1 (fun e => List.map_eq_nil_iff.1 (hnil e))
 refine OWk.E ?_
 refine SW.B b1 (fun hc => ?_) (fun hc => ?_)
 ·replace h := an hc h
  refine SW.R 1 [(2, zN)] <| SW.ret <| af ?_
  cases h
  exact aA.ret [] (by kernel_rfl) rfl
 ·replace h := ao hc h
  refine SW.skip <| ad <| SW.S <| OWk.sg 8 H [5] [5, 6] 2 [(5, zN), (6, Z80 p0)] (by kernel_rfl) ?_
  obtain ⟨hk, h⟩ := bH h
  refine OWk.app 8 H (s := 5) (d := 7) (w := 3) [7] (zs := List.map ab (([] : List Entry) ++ p0)) [(7, Cp p0)] (ys := (List.map ab p0)) (by kernel_rfl) (aY) (bY hk) (by kernel_rfl) <| OWk.sg 8 H [5] [2] 1 [(2, Cp p0)] (by kernel_rfl) <| OWk.E <| SW.ret ?_
  cases h
  exact aA.ret [] (by kernel_rfl) rfl
def ea (fuel : Nat) (p0 : (List (Option Nat))) : Option ((List (Option Nat))) :=
 uF p0 fun b1 =>
 bif b1 then
  some ([] : List (Option Nat))
 else
  chk (decide ((([] : List (Option Nat)) ++ p0).length ≤ room)) <|
  some (([] : List (Option Nat)) ++ p0)
def qc (x0 : ((List Entry) × Hp)) : SV := vI (IntKind.wrap .i64 (Int.tdiv (x0.1.length : Int) 2))
def A6 (x0 : ((List Entry) × Hp)) : SV := .d (.list 3 (List.map ab x0.1))
def A5 (x0 : ((List Entry) × Hp)) : SV := vI (IntKind.wrap .i64 ((IntKind.wrap .i64 (Int.tdiv (x0.1.length : Int) 2)) + 1))
def Ej (x0 : ((List Entry) × Hp)) (x1 : ((List Entry) × Hp)) : SV := .d (.list 3 (List.map ab (sl x0.1 (IntKind.wrap .i64 ((IntKind.wrap .i64 (Int.tdiv (x1.1.length : Int) 2)) + 1)) (x0.1.length : Int))))
def sm (x0 : (List (Option Nat))) : SV := .d (.list 1 (List.map cP.enc x0))
def Co : SV := .own 1 (List.map cP.enc ([] : List (Option Nat)))
def Cn (x0 : (List (Option Nat))) : SV := .own 1 (List.map cP.enc (([] : List (Option Nat)) ++ x0))
theorem gQ {fuel : Nat} {p0 : (List (Option Nat))} {r : (List (Option Nat))} (h : ea fuel p0 = some r) : PC Try.prog 75 [.d (.list 1 (List.map cP.enc p0))] (.own 1 (List.map cP.enc r)) := by
 refine PC.br Try.func75 rfl fun H => ?_
 unfold ea at h
 refine SW.kp 8 H [0] [(0, sm p0)] (by kernel_rfl) <| SW.R 1 [(0, sm p0)] <| SW.seq <| SW.S <| OWk.G 1 [(0, sm p0), (3, sm p0)] ?_
 refine OWk.xD (xs := List.map cP.enc p0) (d := some 4) (e := true) 8 H [0, 4] (fun b1 => [(0, sm p0), (4, vB b1)]) (by kernel_rfl) (fun _ => by kernel_rfl) (fun b1 hnil => ?_)
 replace h := ke h b1 (fun e => List.map_eq_nil_iff.1 (hnil e))
 refine OWk.E ?_
 refine SW.B b1 (fun hc => ?_) (fun hc => ?_)
 ·replace h := an hc h
  refine SW.R 1 [(2, Co)] <| SW.ret <| af ?_
  cases h
  exact aA.ret [] (by kernel_rfl) rfl
 ·replace h := ao hc h
  refine SW.skip <| ad <| SW.S <| OWk.sg 8 H [5] [5, 6] 2 [(5, Co), (6, sm p0)] (by kernel_rfl) ?_
  obtain ⟨hk, h⟩ := bH h
  refine OWk.app 8 H (s := 5) (d := 7) (w := 1) [7] (zs := List.map cP.enc (([] : List (Option Nat)) ++ p0)) [(7, Cn p0)] (ys := (List.map cP.enc p0)) (by kernel_rfl) (aY) (bY hk) (by kernel_rfl) <| OWk.sg 8 H [5] [2] 1 [(2, Cn p0)] (by kernel_rfl) <| OWk.E <| SW.ret ?_
  cases h
  exact aA.ret [] (by kernel_rfl) rfl
def oC (fuel : Nat) (p0 : Nat) (H : Hp) : Option ((Entry × (Option Nat)) × Hp) :=
 (hFz 3 aK H p0 0).bind fun q2 =>
 (hFz 3 aK q2.2 p0 0).bind fun q4 =>
 (idx q4.1 (IntKind.wrap .i64 (Int.tdiv (q2.1.length : Int) 2))).bind fun x5 =>
 (hFz 3 aK q4.2 p0 0).bind fun q7 =>
 chk (sG q7.1 (IntKind.wrap .i64 ((IntKind.wrap .i64 (Int.tdiv (q2.1.length : Int) 2)) + 1)) (q7.1.length : Int)) <|
 (eb fuel (sl q7.1 (IntKind.wrap .i64 ((IntKind.wrap .i64 (Int.tdiv (q2.1.length : Int) 2)) + 1)) (q7.1.length : Int))).bind fun r8 =>
 (mw q7.2 (.cells [.d (.list 3 (List.map ab r8)), .own 1 (List.map cP.enc ([] : List (Option Nat)))])).bind fun q9 =>
 aX (fun (j10 : Hp) =>
  (hFz 3 aK j10 p0 0).bind fun q22 =>
  chk (sG q22.1 0 (IntKind.wrap .i64 (Int.tdiv (q2.1.length : Int) 2))) <|
  (eb fuel (sl q22.1 0 (IntKind.wrap .i64 (Int.tdiv (q2.1.length : Int) 2)))).bind fun r23 =>
  (dB 3 aK q22.2 p0 0 r23).bind fun H24 =>
  some ((x5, (some q9.2)), H24)) fun jp11 =>
 (dh fuel p0 q9.1).bind fun r12 =>
 bif (!r12) then
  (hFz 1 cP q9.1 p0 1).bind fun q14 =>
  chk (sG q14.1 (IntKind.wrap .i64 ((IntKind.wrap .i64 (Int.tdiv (q2.1.length : Int) 2)) + 1)) (q14.1.length : Int)) <|
  (ea fuel (sl q14.1 (IntKind.wrap .i64 ((IntKind.wrap .i64 (Int.tdiv (q2.1.length : Int) 2)) + 1)) (q14.1.length : Int))).bind fun r15 =>
  (dB 1 cP q14.2 q9.2 1 r15).bind fun H16 =>
  (hFz 1 cP H16 p0 1).bind fun q18 =>
  chk (sG q18.1 0 (IntKind.wrap .i64 ((IntKind.wrap .i64 (Int.tdiv (q2.1.length : Int) 2)) + 1))) <|
  (ea fuel (sl q18.1 0 (IntKind.wrap .i64 ((IntKind.wrap .i64 (Int.tdiv (q2.1.length : Int) 2)) + 1)))).bind fun r19 =>
  (dB 1 cP q18.2 p0 1 r19).bind fun H20 =>
  jp11 H20
 else
  jp11 q9.1
def Cm (x0 : ((List (Option Nat)) × Hp)) : SV := .d (.list 1 (List.map cP.enc x0.1))
def wX (x0 : (List (Option Nat))) : SV := .own 1 (List.map cP.enc x0)
def Ei (x0 : ((List (Option Nat)) × Hp)) (x1 : ((List Entry) × Hp)) : SV := .d (.list 1 (List.map cP.enc (sl x0.1 0 (IntKind.wrap .i64 ((IntKind.wrap .i64 (Int.tdiv (x1.1.length : Int) 2)) + 1)))))
def Eh (x0 : ((List (Option Nat)) × Hp)) (x1 : ((List Entry) × Hp)) : SV := .d (.list 1 (List.map cP.enc (sl x0.1 (IntKind.wrap .i64 ((IntKind.wrap .i64 (Int.tdiv (x1.1.length : Int) 2)) + 1)) (x0.1.length : Int))))
def Eg (x0 : (List Entry)) : SV := .d (.agg [.list 3 (List.map ab x0), .bW])
def Ef (x0 : ((List Entry) × Hp)) (x1 : ((List Entry) × Hp)) : SV := .d (.list 3 (List.map ab (sl x0.1 0 (IntKind.wrap .i64 (Int.tdiv (x1.1.length : Int) 2)))))
def K14 := fun a0 a1 a2 (t : SL) => ((0, .d (.ptr a0 0)) :: (2, oA) :: (4, qc a1) :: (5, Z76 a2) :: t : SL)
def K61 := fun a0 a1 a2 a3 (t : SL) => ((0, .d (.ptr a0 0)) :: (2, oA) :: (4, qc a1) :: (5, Z76 a2) :: (6, .d (.ptr a3 0)) :: t : SL)
def K80 := fun a0 (t : SL) => ((0, .d (.ptr a0 0)) :: (2, oA) :: t : SL)
def K97 := fun a0 a1 (t : SL) => ((2, oA) :: (5, Z76 a0) :: (6, .d (.ptr a1 0)) :: t : SL)
theorem oW {fuel : Nat} {p0 : Nat} {H : Hp} {r : (Entry × (Option Nat)) × Hp} (h : oC fuel p0 H = some r) : SC Try.prog false 61 [.d (.ptr p0 0)] H (.tup [.d (.agg [.list 3 (List.map ag r.1.1.Row), .int .i64 r.1.1.Key, .int .i64 r.1.1.Number]), .d (cP.enc r.1.2)]) r.2 := by
 refine SC.ga Try.func61 rfl ?_
 unfold oC at h
 refine SW.kp 73 H [0] [(0, .d (.ptr p0 0))] (by kernel_rfl) <| SW.R 1 (K80 p0 []) <| SW.S <| OWk.G 4 (K80 p0 [(10, .d (.ptr p0 0))]) ?_
 obtain ⟨q2, hx, h⟩ := aa h
 refine OWk.fzH (c := aK) (xs := q2.1) (H' := q2.2) hx (by kernel_rfl) <| OWk.O (d := some 11) (s := .d (.list 3 (List.map ab q2.1))) (K80 p0 [(11, .d (.list 3 (List.map ab q2.1)))]) (BAt.ldZ (c := aK) (xs := q2.1) (H1 := q2.2) hx (by kernel_rfl)) <| OWk.O (d := some 12) (K80 p0 [(12, vI (q2.1.length : Int))]) (BAt.len (enc := ab) (xs := q2.1) (by kernel_rfl)) <| OWk.G 2 (K80 p0 [(4, qc q2)]) <| OWk.E <| SW.S <| OWk.G 4 (K80 p0 [(4, qc q2), (17, .d (.ptr p0 0))]) ?_
 obtain ⟨q4, hx, h⟩ := aa h
 refine OWk.fzH (c := aK) (xs := q4.1) (H' := q4.2) hx (by kernel_rfl) <| OWk.O (d := some 18) (s := .d (.list 3 (List.map ab q4.1))) (K80 p0 [(4, qc q2), (18, .d (.list 3 (List.map ab q4.1)))]) (BAt.ldZ (c := aK) (xs := q4.1) (H1 := q4.2) hx (by kernel_rfl)) <| OWk.G 1 (K80 p0 [(4, qc q2), (18, A6 q4), (19, qc q2)]) ?_
 obtain ⟨x5, hx, h⟩ := aa h
 refine OWk.O (d := some 20) (s := aO none (Go.Sh.D.cells (ab x5))) (K80 p0 [(4, qc q2), (20, .d (.aR [.list 3 (List.map ag x5.Row), .int .i64 x5.Key, .int .i64 x5.Number]))]) (BAt.index (n := 3) hx (by kernel_rfl)) <| OWk.G 3 (K14 p0 q2 x5 []) <| OWk.E <| SW.S <| OWk.G 4 (K14 p0 q2 x5 [(25, .d (.ptr p0 0))]) ?_
 obtain ⟨q7, hx, h⟩ := aa h
 refine OWk.fzH (c := aK) (xs := q7.1) (H' := q7.2) hx (by kernel_rfl) <| OWk.O (d := some 26) (s := .d (.list 3 (List.map ab q7.1))) (K14 p0 q2 x5 [(26, .d (.list 3 (List.map ab q7.1)))]) (BAt.ldZ (c := aK) (xs := q7.1) (H1 := q7.2) hx (by kernel_rfl)) <| OWk.G 2 (K14 p0 q2 x5 [(26, A6 q7), (28, A5 q2)]) ?_
 obtain ⟨hk, h⟩ := bH h
 refine OWk.O (d := some 29) (s := kj none 3 (List.map ab (sl q7.1 (IntKind.wrap .i64 ((IntKind.wrap .i64 (Int.tdiv (q2.1.length : Int) 2)) + 1)) (q7.1.length : Int)))) (K14 p0 q2 x5 [(29, Ej q7 q2)]) (BAt.slice hk (by kernel_rfl)) ?_
 obtain ⟨r8, hr, h⟩ := aa h
 refine OWk.C0 (some 30) (K14 p0 q2 x5 [(30, .own 3 (List.map ab r8))]) (gR hr) <| OWk.fz 73 q7.2 30 [0, 2, 4, 5, 30] (K14 p0 q2 x5 [(30, Z80 r8)]) (by kernel_rfl) <| OWk.G 2 (K14 p0 q2 x5 [(32, Eg r8)]) ?_
 obtain ⟨q9, hq, h⟩ := aa h
 refine OWk.iQ 73 q9.1 (d := some 33) (b := false) [(1, 1, true)] [0, 2, 4, 5, 33] (K14 p0 q2 x5 [(33, .d (.ptr q9.2 0))]) hq (by kernel_rfl) rfl (by kernel_rfl) <| OWk.G 1 (K61 p0 q2 x5 q9.2 []) <| OWk.E ?_
 obtain ⟨jp11, hjjp11, h⟩ := bt h
 refine SW.jnH 73 [0, 2, 4, 5, 6] (fun (j10 : Hp) => (K61 p0 q2 x5 q9.2 [])) (fun (j10 : Hp) => j10) (fun v => jp11 v = some r) (fun j10 h => ?_) ?_
 ·rw [hjjp11] at h
  refine SW.S <| OWk.G 5 [(2, oA), (4, qc q2), (5, Z76 x5), (6, .d (.ptr q9.2 0)), (59, .d (.ptr p0 0)), (63, .d (.ptr p0 0))] ?_
  obtain ⟨q22, hx, h⟩ := aa h
  refine OWk.fzH (c := aK) (xs := q22.1) (H' := q22.2) hx (by kernel_rfl) <| OWk.O (d := some 64) (s := .d (.list 3 (List.map ab q22.1))) [(2, oA), (4, qc q2), (5, Z76 x5), (6, .d (.ptr q9.2 0)), (59, .d (.ptr p0 0)), (64, .d (.list 3 (List.map ab q22.1)))] (BAt.ldZ (c := aK) (xs := q22.1) (H1 := q22.2) hx (by kernel_rfl)) <| OWk.G 1 (K97 x5 q9.2 [(59, .d (.ptr p0 0)), (64, A6 q22), (65, qc q2)]) ?_
  obtain ⟨hk, h⟩ := bH h
  refine OWk.O (d := some 66) (s := kj none 3 (List.map ab (sl q22.1 0 (IntKind.wrap .i64 (Int.tdiv (q2.1.length : Int) 2))))) (K97 x5 q9.2 [(59, .d (.ptr p0 0)), (66, Ef q22 q2)]) (BAt.slice hk (by kernel_rfl)) ?_
  obtain ⟨r23, hr, h⟩ := aa h
  refine OWk.C0 (some 67) (K97 x5 q9.2 [(59, .d (.ptr p0 0)), (67, .own 3 (List.map ab r23))]) (gR hr) <| OWk.G 3 (K97 x5 q9.2 [(67, eI r23), (70, .d (.ptr p0 0))]) ?_
  obtain ⟨H24, hx, h⟩ := aa h
  refine OWk.gvH (c := aK) (n' := 3) (s := 67) (xs := r23) 73 [2, 5, 6] (K97 x5 q9.2 []) hx (by kernel_rfl) (by kernel_rfl) <| OWk.E <| SW.R 1 [(2, Z76 x5), (3, .d (.ptr q9.2 0))] <| SW.ret ?_
  cases h
  exact aA.ret [] (by kernel_rfl) rfl
 ·refine SW.S <| OWk.G 1 (K61 p0 q2 x5 q9.2 [(34, .d (.ptr p0 0))]) ?_
  obtain ⟨r12, hr, h⟩ := aa h
  refine OWk.CR (ls := []) (some 35) (K61 p0 q2 x5 q9.2 [(35, vB r12)]) (fq hr) <| OWk.G 1 (K61 p0 q2 x5 q9.2 [(36, vB (!r12))]) <| OWk.E ?_
  refine SW.B (!r12) (fun hc => ?_) (fun hc => ?_)
  ·replace h := an hc h
   refine SW.S <| OWk.G 4 (K61 p0 q2 x5 q9.2 [(37, .d (.ptr q9.2 0)), (40, .d (.ptr p0 1))]) ?_
   obtain ⟨q14, hx, h⟩ := aa h
   refine OWk.fzH (c := cP) (xs := q14.1) (H' := q14.2) hx (by kernel_rfl) <| OWk.O (d := some 41) (s := .d (.list 1 (List.map cP.enc q14.1))) (K61 p0 q2 x5 q9.2 [(37, .d (.ptr q9.2 0)), (41, .d (.list 1 (List.map cP.enc q14.1)))]) (BAt.ldZ (c := cP) (xs := q14.1) (H1 := q14.2) hx (by kernel_rfl)) <| OWk.G 2 (K61 p0 q2 x5 q9.2 [(37, .d (.ptr q9.2 0)), (41, Cm q14), (43, A5 q2)]) ?_
   obtain ⟨hk, h⟩ := bH h
   refine OWk.O (d := some 44) (s := kj none 1 (List.map cP.enc (sl q14.1 (IntKind.wrap .i64 ((IntKind.wrap .i64 (Int.tdiv (q2.1.length : Int) 2)) + 1)) (q14.1.length : Int)))) (K61 p0 q2 x5 q9.2 [(37, .d (.ptr q9.2 0)), (44, Eh q14 q2)]) (BAt.slice hk (by kernel_rfl)) ?_
   obtain ⟨r15, hr, h⟩ := aa h
   refine OWk.C0 (some 45) (K61 p0 q2 x5 q9.2 [(37, .d (.ptr q9.2 0)), (45, .own 1 (List.map cP.enc r15))]) (gQ hr) <| OWk.G 2 (K61 p0 q2 x5 q9.2 [(45, wX r15), (47, .d (.ptr q9.2 1))]) ?_
   obtain ⟨H16, hx, h⟩ := aa h
   refine OWk.gvH (c := cP) (n' := 1) (s := 45) (xs := r15) 73 [0, 2, 4, 5, 6] (K61 p0 q2 x5 q9.2 []) hx (by kernel_rfl) (by kernel_rfl) <| OWk.E <| SW.au <| OWk.G 4 (K61 p0 q2 x5 q9.2 [(48, .d (.ptr p0 0)), (51, .d (.ptr p0 1))]) ?_
   obtain ⟨q18, hx, h⟩ := aa h
   refine OWk.fzH (c := cP) (xs := q18.1) (H' := q18.2) hx (by kernel_rfl) <| OWk.O (d := some 52) (s := .d (.list 1 (List.map cP.enc q18.1))) (K61 p0 q2 x5 q9.2 [(48, .d (.ptr p0 0)), (52, .d (.list 1 (List.map cP.enc q18.1)))]) (BAt.ldZ (c := cP) (xs := q18.1) (H1 := q18.2) hx (by kernel_rfl)) <| OWk.G 2 (K61 p0 q2 x5 q9.2 [(48, .d (.ptr p0 0)), (52, Cm q18), (54, A5 q2)]) ?_
   obtain ⟨hk, h⟩ := bH h
   refine OWk.O (d := some 55) (s := kj none 1 (List.map cP.enc (sl q18.1 0 (IntKind.wrap .i64 ((IntKind.wrap .i64 (Int.tdiv (q2.1.length : Int) 2)) + 1))))) (K61 p0 q2 x5 q9.2 [(48, .d (.ptr p0 0)), (55, Ei q18 q2)]) (BAt.slice hk (by kernel_rfl)) ?_
   obtain ⟨r19, hr, h⟩ := aa h
   refine OWk.C0 (some 56) (K61 p0 q2 x5 q9.2 [(48, .d (.ptr p0 0)), (56, .own 1 (List.map cP.enc r19))]) (gQ hr) <| OWk.G 2 (K61 p0 q2 x5 q9.2 [(56, wX r19), (58, .d (.ptr p0 1))]) ?_
   obtain ⟨H20, hx, h⟩ := aa h
   refine OWk.gvH (c := cP) (n' := 1) (s := 56) (xs := r19) 73 [0, 2, 4, 5, 6] (K61 p0 q2 x5 q9.2 []) hx (by kernel_rfl) (by kernel_rfl) <| OWk.D ?_
   exact ⟨H20, [], by kernel_rfl, h⟩
  ·replace h := ao hc h
   refine SW.skip ?_
   exact ⟨q9.1, [], by kernel_rfl, h⟩
def fy (fuel : Nat) (p0 : (List (Option Nat))) (p1 : Int) (p2 : (List (Option Nat))) : Option ((List (Option Nat))) :=
 chk (sG p0 p1 (p0.length : Int)) <|
 bif ((p2.length : Int) == 0) then
  some p0
 else
  bif (p1 == (p0.length : Int)) then
   chk (decide ((p0 ++ p2).length ≤ room)) <|
   some (p0 ++ p2)
  else
   chk (decide (0 ≤ p1) && decide (p1 < (p0.length : Int)) && decide (0 < p2.length) && decide (p0.length + p2.length ≤ room)) <|
   some (List.take (Int.toNat p1) p0 ++ p2 ++ List.drop (Int.toNat p1) p0)
def zM (x0 : ((Entry × (Option Nat)) × Hp)) : SV := .box [.d (.list 3 (List.map ag x0.1.1.Row)), vI x0.1.1.Key, vI x0.1.1.Number]
def wW (x0 : ((Entry × (Option Nat)) × Hp)) : SV := .own 3 (List.map ab [x0.1.1])
def lQ (x0 : ((Entry × (Option Nat)) × Hp)) : SV := .d (.list 3 (List.map ab [x0.1.1]))
def mI (x0 : ((Entry × (Option Nat)) × Hp)) : SV := .d (.agg [.list 3 (List.map ag x0.1.1.Row), .int .i64 x0.1.1.Key, .int .i64 x0.1.1.Number])
def yF (x0 : ((List (Option Nat)) × Hp)) : SV := .own 1 (List.map cP.enc x0.1)
def zL (x0 : Int × Bool) : SV := vI (IntKind.wrap .i64 (x0.1 + 1))
def Ck (x0 : Nat) : SV := .own 1 (List.map cP.enc [(some x0)])
def Cj (x0 : (List (Option Nat))) : SV := .bf (.slot 0) 1 (List.map cP.enc x0)
def Ee (x0 : Int) (x1 : (List (Option Nat))) : SV := vB (x0 == (x1.length : Int))
def Ci (x0 : (List (Option Nat))) (x1 : (List (Option Nat))) : SV := .own 1 (List.map cP.enc (x0 ++ x1))
def K52 := fun a0 a1 a2 (t : SL) => ((0, wX a0) :: (1, vI a1) :: (2, sm a2) :: t : SL)
theorem jT {fuel : Nat} {p0 : (List (Option Nat))} {p1 : Int} {p2 : (List (Option Nat))} {r : (List (Option Nat))} (h : fy fuel p0 p1 p2 = some r) : PC Try.prog 73 [.own 1 (List.map cP.enc p0), vI p1, .d (.list 1 (List.map cP.enc p2))] (.own 1 (List.map cP.enc r)) := by
 refine PC.br Try.func73 rfl fun H => ?_
 unfold fy at h
 refine SW.kp 95 H [0, 1, 2] (K52 p0 p1 p2 []) (by kernel_rfl) <| SW.R 1 (K52 p0 p1 p2 []) <| SW.S <| OWk.G 2 (K52 p0 p1 p2 [(10, Cj p0), (11, vI p1)]) ?_
 obtain ⟨hk, h⟩ := bH h
 refine OWk.O (d := some 12) (s := kj (some (.slot 0)) 1 (List.map cP.enc (sl p0 p1 (p0.length : Int)))) (K52 p0 p1 p2 []) (BAt.slice hk (by kernel_rfl)) <| OWk.E <| SW.S <| OWk.G 1 (K52 p0 p1 p2 [(13, sm p2)]) <| OWk.O (d := some 14) (K52 p0 p1 p2 [(14, vI (p2.length : Int))]) (BAt.len (enc := cP.enc) (xs := p2) (by kernel_rfl)) <| OWk.G 1 (K52 p0 p1 p2 [(7, vI (p2.length : Int))]) <| OWk.E <| SW.seq <| SW.R 1 (K52 p0 p1 p2 [(7, vI (p2.length : Int)), (16, Cs p2)]) ?_
 refine SW.B ((p2.length : Int) == 0) (fun hc => ?_) (fun hc => ?_)
 ·replace h := an hc h
  refine SW.S <| OWk.sg 95 H [17] [6] 2 [(6, wX p0)] (by kernel_rfl) <| OWk.E <| SW.ret <| af ?_
  cases h
  exact aA.ret [] (by kernel_rfl) rfl
 ·replace h := ao hc h
  refine SW.skip <| ad <| SW.S <| OWk.G 1 (K52 p0 p1 p2 [(7, vI (p2.length : Int)), (18, Cj p0)]) <| OWk.O (d := some 19) (K52 p0 p1 p2 [(7, vI (p2.length : Int)), (19, vI (p0.length : Int))]) (BAt.len (enc := cP.enc) (xs := p0) (by kernel_rfl)) <| OWk.G 1 (K52 p0 p1 p2 [(7, vI (p2.length : Int)), (8, vI (p0.length : Int))]) <| OWk.E <| SW.seq <| SW.R 1 (K52 p0 p1 p2 [(7, vI (p2.length : Int)), (8, vI (p0.length : Int)), (22, Ee p1 p0)]) ?_
  refine SW.B (p1 == (p0.length : Int)) (fun hc => ?_) (fun hc => ?_)
  ·replace h := an hc h
   refine SW.S <| OWk.sg 95 H [23] [23, 24] 2 [(23, wX p0), (24, sm p2)] (by kernel_rfl) ?_
   obtain ⟨hk, h⟩ := bH h
   refine OWk.app 95 H (s := 23) (d := 25) (w := 1) [25] (zs := List.map cP.enc (p0 ++ p2)) [(25, Ci p0 p2)] (ys := (List.map cP.enc p2)) (by kernel_rfl) (aY) (bY hk) (by kernel_rfl) <| OWk.sg 95 H [23] [6] 1 [(6, Ci p0 p2)] (by kernel_rfl) <| OWk.E <| SW.ret <| af ?_
   cases h
   exact aA.ret [] (by kernel_rfl) rfl
  ·replace h := ao hc h
   refine SW.skip <| ad ?_
   obtain ⟨hk, h⟩ := bH h
   refine SW.K (K52 p0 p1 p2 [(7, vI (p2.length : Int)), (8, vI (p0.length : Int))]) ?_
   obtain ⟨hT, ti, z, zd, hi, hz, hzd, hzn, hsz, hn, hby⟩ := pT (P := Try.prog) (T := 93) (e := 72) (n := 1) (by kernel_rfl)
   refine SW.BD (enc := cP.enc) (xs := p0) (ys := p2) (i := p1) (T := 93) (I := 3) (B := 4) (fo := 91) (ik := .i64) hk hT (by kernel_rfl) hi hz hzd hzn hsz hn hby (fun args w => run_callFunc_extern Try.func91 (by kernel_rfl) (by kernel_rfl) (by kernel_rfl) (by kernel_rfl) args w) (by kernel_rfl) (by kernel_rfl) (by kernel_rfl) ⟨rfl, rfl, rfl⟩ ⟨rfl, rfl, rfl⟩ ⟨rfl, rfl, rfl⟩ ⟨rfl, rfl, rfl⟩ ⟨rfl, rfl, rfl⟩ ⟨rfl, rfl, rfl⟩ ⟨rfl, rfl, rfl⟩ ⟨rfl, rfl, rfl⟩ ⟨rfl, rfl, rfl⟩ ⟨rfl, rfl, rfl⟩ ⟨rfl, rfl, rfl⟩ ⟨rfl, rfl, rfl⟩ ⟨rfl, rfl, rfl⟩ ⟨rfl, rfl, rfl⟩ ⟨rfl, rfl, rfl⟩ ⟨rfl, rfl, rfl⟩ ⟨rfl, rfl, rfl⟩ ⟨rfl, rfl, rfl⟩ ⟨rfl, rfl, rfl⟩ ⟨rfl, rfl, rfl⟩ ⟨rfl, rfl, rfl⟩ ⟨rfl, rfl, rfl⟩ ⟨rfl, rfl, rfl⟩ ⟨rfl, rfl, rfl⟩ ⟨rfl, rfl, rfl⟩ ⟨rfl, rfl, rfl⟩ ⟨rfl, rfl, rfl⟩ ⟨rfl, rfl, rfl⟩ ⟨rfl, rfl, rfl⟩ ⟨rfl, rfl, rfl⟩ ⟨rfl, rfl, rfl⟩ ⟨rfl, rfl, rfl⟩ ⟨rfl, rfl, rfl⟩ ⟨rfl, rfl, rfl⟩ ⟨rfl, rfl, rfl⟩ ⟨rfl, rfl, rfl⟩ ⟨rfl, rfl, rfl⟩ ⟨rfl, rfl, rfl⟩ ⟨rfl, rfl, rfl⟩ ⟨rfl, rfl, rfl⟩ ⟨rfl, rfl, rfl⟩ ⟨rfl, rfl, rfl⟩ ⟨rfl, rfl, rfl⟩ ⟨rfl, rfl, rfl⟩ ⟨rfl, rfl, rfl⟩ ⟨rfl, rfl, rfl⟩ ⟨rfl, rfl, rfl⟩ ⟨rfl, rfl, rfl⟩ ⟨rfl, rfl, rfl⟩ ⟨rfl, rfl, rfl⟩ ⟨rfl, rfl, rfl⟩ ⟨rfl, rfl, rfl⟩ ⟨rfl, rfl, rfl⟩ ⟨rfl, rfl, rfl⟩ ⟨rfl, rfl, rfl⟩ ⟨rfl, rfl, rfl⟩ ⟨rfl, rfl, rfl⟩ ⟨rfl, rfl, rfl⟩ ⟨rfl, rfl, rfl⟩ ⟨rfl, rfl, rfl⟩ ⟨rfl, rfl, rfl⟩ ⟨rfl, rfl, rfl⟩ ?_
   cases h
   exact aA.ret [] (by kernel_rfl) rfl
def jk (fuel : Nat) (rc : (Nat → Nat → Entry → Hp → Option ((Unit) × Hp))) (p0 : Nat) (p1 : Nat) (p2 : Entry) (H : Hp) : Option ((Unit) × Hp) :=
 (mU fuel p0 p1 p2 H).bind fun r1 =>
 (dh fuel p1 H).bind fun r2 =>
 bif r2 then
  (eF 3 aK H p1 0).bind fun q3 =>
  (gi fuel q3.1 r1.1 [p2]).bind fun r4 =>
  (dB 3 aK q3.2 p1 0 r4).bind fun H5 =>
  some ((), H5)
 else
  (cp 1 cP H p1 1).bind fun x6 =>
  (idx x6 r1.1).bind fun x7 =>
  x7.bind fun i8 =>
  (rc p0 i8 p2 H).bind fun r9 =>
  (cp 3 aK r9.2 i8 0).bind fun x10 =>
  (bg (cI .i64).cell r9.2 p0 3).bind fun x11 =>
  bif (decide ((x10.length : Int) > x11)) then
   (oC fuel i8 r9.2).bind fun r12 =>
   (eF 3 aK r12.2 p1 0).bind fun q13 =>
   (gi fuel q13.1 r1.1 [r12.1.1]).bind fun r14 =>
   (dB 3 aK q13.2 p1 0 r14).bind fun H15 =>
   (eF 1 cP H15 p1 1).bind fun q16 =>
   r12.1.2.bind fun i17 =>
   (fy fuel q16.1 (IntKind.wrap .i64 (r1.1 + 1)) [(some i17)]).bind fun r18 =>
   (dB 1 cP q16.2 p1 1 r18).bind fun H19 =>
   some ((), H19)
  else
   some ((), r9.2)
def lC : Nat → (Nat → Nat → Entry → Hp → Option ((Unit) × Hp))
 | 0 => fun _ _ _ _ => none
 | fuel + 1 => jk fuel (lC fuel)
def Ed (x0 : Nat) : SV := .d (.list 1 (List.map cP.enc [(some x0)]))
def K10 := fun a0 a1 a2 a3 (t : SL) => ((1, .d (.ptr a0 0)) :: (6, vI a1) :: (10, .d (cP.enc a2)) :: (60, .d (.ptr a3 0)) :: t : SL)
def K21 := fun a0 a1 a2 a3 a4 (t : SL) => ((1, .d (.ptr a0 0)) :: (6, vI a1) :: (9, zM a2) :: (10, .d (cP.enc a3)) :: (60, .d (.ptr a4 0)) :: t : SL)
def K49 := fun a0 a1 (t : SL) => ((1, .d (.ptr a0 0)) :: (6, vI a1) :: t : SL)
def K65 := fun a0 a1 a2 (t : SL) => ((20, .d (.ptr a0 0)) :: (24, .d (.ptr a1 0)) :: (26, vI a2) :: t : SL)
def K66 := fun a0 a1 a2 (t : SL) => ((20, .d (.ptr a0 0)) :: (23, .d (.ptr a1 0)) :: (26, vI a2) :: t : SL)
def K67 := fun a0 a1 a2 (t : SL) => ((20, .d (.ptr a0 0)) :: (22, .d (.ptr a1 0)) :: (26, vI a2) :: t : SL)
def K70 := fun a0 a1 (t : SL) => ((5, Z76 a0) :: (20, .d (.ptr a1 0)) :: t : SL)
def K73 := fun a0 a1 a2 (t : SL) => ((20, .d (.ptr a0 0)) :: (25, iy a1) :: (26, vI a2) :: t : SL)
def K84 := fun a0 a1 a2 (t : SL) => ((20, .d (.ptr a0 0)) :: (21, .d (.ptr a1 0)) :: (26, vI a2) :: t : SL)
def K100 := fun a0 a1 a2 (t : SL) => ((1, .d (.ptr a0 0)) :: (6, vI a1) :: (10, .d (cP.enc a2)) :: t : SL)
theorem n5 {fuel : Nat} {rc : (Nat → Nat → Entry → Hp → Option ((Unit) × Hp))} (ih : ∀ {p0 : Nat} {p1 : Nat} {p2 : Entry} {H : Hp} {r : (Unit) × Hp}, rc p0 p1 p2 H = some r → SC Try.prog false 60 [.d (.ptr p0 0), .d (.ptr p1 0), .d (ab p2)] H (.tup []) r.2) {p0 : Nat} {p1 : Nat} {p2 : Entry} {H : Hp} {r : (Unit) × Hp} (h : jk fuel rc p0 p1 p2 H = some r) : SC Try.prog false 60 [.d (.ptr p0 0), .d (.ptr p1 0), .d (ab p2)] H (.tup []) r.2 := by
 refine SC.ga Try.func60 rfl ?_
 unfold jk at h
 refine SW.kp 85 H [0, 1, 2] (K26 p0 p1 [(2, Z77 p2)]) (by kernel_rfl) <| SW.R 1 (K26 p0 p1 [(5, Z76 p2)]) <| SW.S <| OWk.G 3 (K26 p0 p1 [(5, Z76 p2), (12, .d (.ptr p0 0)), (13, .d (.ptr p1 0)), (14, Z77 p2)]) ?_
 obtain ⟨r1, hr, h⟩ := aa h
 refine OWk.CR (ls := []) (some 15) (K26 p0 p1 [(5, Z76 p2), (15, .tup [vI r1.1, vB r1.2])]) (rC hr) <| OWk.G 5 (K26 p0 p1 [(5, Z76 p2), (6, vI r1.1)]) <| OWk.E <| SW.seq <| SW.S <| OWk.G 1 (K26 p0 p1 [(5, Z76 p2), (6, vI r1.1), (18, .d (.ptr p1 0))]) ?_
 obtain ⟨r2, hr, h⟩ := aa h
 refine OWk.CR (ls := []) (some 19) (K26 p0 p1 [(5, Z76 p2), (6, vI r1.1), (19, vB r2)]) (fq hr) <| OWk.E ?_
 refine SW.B r2 (fun hc => ?_) (fun hc => ?_)
 ·replace h := an hc h
  refine SW.seq ?_
  obtain ⟨q3, hq_5, h⟩ := aa h
  obtain ⟨r4, hr_9, h⟩ := aa h
  obtain ⟨H5, hx_13, h⟩ := aa h
  refine SW.K [(1, .d (.ptr p1 0)), (5, Z76 p2), (6, vI r1.1)] ?_
  refine SW.nB 85 H5 [] [0, 1, 6] 11 67 (by kernel_rfl) (by kernel_rfl) (by kernel_rfl) (fun X hX => ?_) ?_
  ·have c16383 : X 0 16383 (sp 85 [] H5) := by subst hX; exact OX.fin (by kernel_rfl)
   have c8191 : X 1 8191 (sp 85 [(29, eI r4), (32, .d (.ptr p1 0))] q3.2) := by
    subst hX
    refine OX.step (i0 := 13) (is := []) (by kernel_rfl) (by kernel_rfl) ⟨?_, trivial⟩
    ·refine OWk.gvH (c := aK) (n' := 3) (s := 29) (xs := r4) 85 [] [] hx_13 (by kernel_rfl) (by kernel_rfl) <| OWk.D ?_
     exact c16383
   have c4095 : X 2 4095 (sp 85 [(29, eI r4), (31, .d (.ptr p1 0))] q3.2) := by
    subst hX
    refine OX.step (i0 := 12) (is := []) (by kernel_rfl) (by kernel_rfl) ⟨?_, trivial⟩
    ·refine OWk.sg 85 q3.2 [25] [29, 32] 1 [(29, eI r4), (32, .d (.ptr p1 0))] (by kernel_rfl) <| OWk.D ?_
     exact c8191
   have c2047 : X 3 2047 (sp 85 [(29, eI r4), (30, .d (.ptr p1 0))] q3.2) := by
    subst hX
    refine OX.step (i0 := 11) (is := []) (by kernel_rfl) (by kernel_rfl) ⟨?_, trivial⟩
    ·refine OWk.sg 85 q3.2 [25] [29, 31] 1 [(29, eI r4), (31, .d (.ptr p1 0))] (by kernel_rfl) <| OWk.D ?_
     exact c4095
   have c1023 : X 4 1023 (sp 85 [(20, .d (.ptr p1 0)), (29, eI r4)] q3.2) := by
    subst hX
    refine OX.step (i0 := 10) (is := []) (by kernel_rfl) (by kernel_rfl) ⟨?_, trivial⟩
    ·refine OWk.sg 85 q3.2 [25] [29, 30] 1 [(29, eI r4), (30, .d (.ptr p1 0))] (by kernel_rfl) <| OWk.D ?_
     exact c2047
   have c511 : X 5 511 (sp 85 (K73 p1 q3 r1.1 [(28, mJ p2)]) q3.2) := by
    subst hX
    refine OX.step (i0 := 9) (is := []) (by kernel_rfl) (by kernel_rfl) ⟨?_, trivial⟩
    ·refine OWk.C (d := some 29) (ls := []) (gs := [(25, 0)]) [0] [(20, .d (.ptr p1 0)), (29, .own 3 (List.map ab r4))] (iX hr_9) <| OWk.D ?_
     exact c1023
   have c255 : X 6 255 (sp 85 (K73 p1 q3 r1.1 [(27, Z77 p2)]) q3.2) := by
    subst hX
    refine OX.step (i0 := 8) (is := []) (by kernel_rfl) (by kernel_rfl) ⟨?_, trivial⟩
    ·refine OWk.sg 85 q3.2 [25] [20, 25, 26, 28] 1 (K73 p1 q3 r1.1 [(28, gI p2)]) (by kernel_rfl) <| OWk.fz 85 q3.2 28 [20, 25, 26, 28] (K73 p1 q3 r1.1 [(28, mJ p2)]) (by kernel_rfl) <| OWk.D ?_
     exact c511
   have c127 : X 7 127 (sp 85 (K70 p2 p1 [(25, iy q3), (26, vI r1.1)]) q3.2) := by
    subst hX
    refine OX.step (i0 := 7) (is := []) (by kernel_rfl) (by kernel_rfl) ⟨?_, trivial⟩
    ·refine OWk.sg 85 q3.2 [25] [20, 25, 26, 27] 1 (K73 p1 q3 r1.1 [(27, Z77 p2)]) (by kernel_rfl) <| OWk.D ?_
     exact c255
   have c479 : X 6 479 (sp 85 (K65 p1 p1 r1.1 [(28, mJ p2)]) H) := by
    subst hX
    refine OX.step (i0 := 5) (is := []) (by kernel_rfl) (by kernel_rfl) ⟨?_, trivial⟩
    ·refine OWk.tkH (c := aK) (n' := 3) (d := 25) (xs := q3.1) 85 [20, 25, 26, 28] (K73 p1 q3 r1.1 [(28, mJ p2)]) hq_5 (by kernel_rfl) (by kernel_rfl) <| OWk.D ?_
     exact c511
   have c223 : X 7 223 (sp 85 (K65 p1 p1 r1.1 [(27, Z77 p2)]) H) := by
    subst hX
    refine OX.step (i0 := 5) (is := [8]) (by kernel_rfl) (by kernel_rfl) ⟨?_, ?_, trivial⟩
    ·refine OWk.tkH (c := aK) (n' := 3) (d := 25) (xs := q3.1) 85 [20, 25, 26, 27] (K73 p1 q3 r1.1 [(27, Z77 p2)]) hq_5 (by kernel_rfl) (by kernel_rfl) <| OWk.D ?_
     exact c255
    ·refine OWk.sg 85 H [25] [20, 24, 26, 28] 1 (K65 p1 p1 r1.1 [(28, gI p2)]) (by kernel_rfl) <| OWk.fz 85 H 28 [20, 24, 26, 28] (K65 p1 p1 r1.1 [(28, mJ p2)]) (by kernel_rfl) <| OWk.D ?_
     exact c479
   have c95 : X 8 95 (sp 85 (K70 p2 p1 [(24, .d (.ptr p1 0)), (26, vI r1.1)]) H) := by
    subst hX
    refine OX.step (i0 := 5) (is := [7]) (by kernel_rfl) (by kernel_rfl) ⟨?_, ?_, trivial⟩
    ·refine OWk.tkH (c := aK) (n' := 3) (d := 25) (xs := q3.1) 85 [5, 20, 25, 26] (K70 p2 p1 [(25, .own 3 (List.map ab q3.1)), (26, vI r1.1)]) hq_5 (by kernel_rfl) (by kernel_rfl) <| OWk.D ?_
     exact c127
    ·refine OWk.sg 85 H [25] [20, 24, 26, 27] 1 (K65 p1 p1 r1.1 [(27, Z77 p2)]) (by kernel_rfl) <| OWk.D ?_
     exact c223
   have c463 : X 7 463 (sp 85 (K66 p1 p1 r1.1 [(28, mJ p2)]) H) := by
    subst hX
    refine OX.step (i0 := 4) (is := []) (by kernel_rfl) (by kernel_rfl) ⟨?_, trivial⟩
    ·refine OWk.sg 85 H [25] [20, 24, 26, 28] 1 (K65 p1 p1 r1.1 [(28, mJ p2)]) (by kernel_rfl) <| OWk.D ?_
     exact c479
   have c207 : X 8 207 (sp 85 (K66 p1 p1 r1.1 [(27, Z77 p2)]) H) := by
    subst hX
    refine OX.step (i0 := 4) (is := [8]) (by kernel_rfl) (by kernel_rfl) ⟨?_, ?_, trivial⟩
    ·refine OWk.sg 85 H [25] [20, 24, 26, 27] 1 (K65 p1 p1 r1.1 [(27, Z77 p2)]) (by kernel_rfl) <| OWk.D ?_
     exact c223
    ·refine OWk.sg 85 H [25] [20, 23, 26, 28] 1 (K66 p1 p1 r1.1 [(28, gI p2)]) (by kernel_rfl) <| OWk.fz 85 H 28 [20, 23, 26, 28] (K66 p1 p1 r1.1 [(28, mJ p2)]) (by kernel_rfl) <| OWk.D ?_
     exact c463
   have c79 : X 9 79 (sp 85 (K70 p2 p1 [(23, .d (.ptr p1 0)), (26, vI r1.1)]) H) := by
    subst hX
    refine OX.step (i0 := 4) (is := [7]) (by kernel_rfl) (by kernel_rfl) ⟨?_, ?_, trivial⟩
    ·refine OWk.sg 85 H [25] [5, 20, 24, 26] 1 (K70 p2 p1 [(24, .d (.ptr p1 0)), (26, vI r1.1)]) (by kernel_rfl) <| OWk.D ?_
     exact c95
    ·refine OWk.sg 85 H [25] [20, 23, 26, 27] 1 (K66 p1 p1 r1.1 [(27, Z77 p2)]) (by kernel_rfl) <| OWk.D ?_
     exact c207
   have c455 : X 8 455 (sp 85 (K67 p1 p1 r1.1 [(28, mJ p2)]) H) := by
    subst hX
    refine OX.step (i0 := 3) (is := []) (by kernel_rfl) (by kernel_rfl) ⟨?_, trivial⟩
    ·refine OWk.sg 85 H [25] [20, 23, 26, 28] 1 (K66 p1 p1 r1.1 [(28, mJ p2)]) (by kernel_rfl) <| OWk.D ?_
     exact c463
   have c199 : X 9 199 (sp 85 (K67 p1 p1 r1.1 [(27, Z77 p2)]) H) := by
    subst hX
    refine OX.step (i0 := 3) (is := [8]) (by kernel_rfl) (by kernel_rfl) ⟨?_, ?_, trivial⟩
    ·refine OWk.sg 85 H [25] [20, 23, 26, 27] 1 (K66 p1 p1 r1.1 [(27, Z77 p2)]) (by kernel_rfl) <| OWk.D ?_
     exact c207
    ·refine OWk.sg 85 H [25] [20, 22, 26, 28] 1 (K67 p1 p1 r1.1 [(28, gI p2)]) (by kernel_rfl) <| OWk.fz 85 H 28 [20, 22, 26, 28] (K67 p1 p1 r1.1 [(28, mJ p2)]) (by kernel_rfl) <| OWk.D ?_
     exact c455
   have c71 : X 10 71 (sp 85 (K70 p2 p1 [(22, .d (.ptr p1 0)), (26, vI r1.1)]) H) := by
    subst hX
    refine OX.step (i0 := 3) (is := [7]) (by kernel_rfl) (by kernel_rfl) ⟨?_, ?_, trivial⟩
    ·refine OWk.sg 85 H [25] [5, 20, 23, 26] 1 (K70 p2 p1 [(23, .d (.ptr p1 0)), (26, vI r1.1)]) (by kernel_rfl) <| OWk.D ?_
     exact c79
    ·refine OWk.sg 85 H [25] [20, 22, 26, 27] 1 (K67 p1 p1 r1.1 [(27, Z77 p2)]) (by kernel_rfl) <| OWk.D ?_
     exact c199
   have c451 : X 9 451 (sp 85 (K84 p1 p1 r1.1 [(28, mJ p2)]) H) := by
    subst hX
    refine OX.step (i0 := 2) (is := []) (by kernel_rfl) (by kernel_rfl) ⟨?_, trivial⟩
    ·refine OWk.sg 85 H [25] [20, 22, 26, 28] 1 (K67 p1 p1 r1.1 [(28, mJ p2)]) (by kernel_rfl) <| OWk.D ?_
     exact c455
   have c195 : X 10 195 (sp 85 (K84 p1 p1 r1.1 [(27, Z77 p2)]) H) := by
    subst hX
    refine OX.step (i0 := 2) (is := [8]) (by kernel_rfl) (by kernel_rfl) ⟨?_, ?_, trivial⟩
    ·refine OWk.sg 85 H [25] [20, 22, 26, 27] 1 (K67 p1 p1 r1.1 [(27, Z77 p2)]) (by kernel_rfl) <| OWk.D ?_
     exact c199
    ·refine OWk.sg 85 H [25] [20, 21, 26, 28] 1 (K84 p1 p1 r1.1 [(28, gI p2)]) (by kernel_rfl) <| OWk.fz 85 H 28 [20, 21, 26, 28] (K84 p1 p1 r1.1 [(28, mJ p2)]) (by kernel_rfl) <| OWk.D ?_
     exact c451
   have c67 : X 11 67 (sp 85 (K70 p2 p1 [(21, .d (.ptr p1 0)), (26, vI r1.1)]) H) := by
    subst hX
    refine OX.step (i0 := 2) (is := [7]) (by kernel_rfl) (by kernel_rfl) ⟨?_, ?_, trivial⟩
    ·refine OWk.sg 85 H [25] [5, 20, 22, 26] 1 (K70 p2 p1 [(22, .d (.ptr p1 0)), (26, vI r1.1)]) (by kernel_rfl) <| OWk.D ?_
     exact c71
    ·refine OWk.sg 85 H [25] [20, 21, 26, 27] 1 (K84 p1 p1 r1.1 [(27, Z77 p2)]) (by kernel_rfl) <| OWk.D ?_
     exact c195
   refine OBk.sg 85 H [25] [1, 5, 6, 20] 1 [(1, .d (.ptr p1 0)), (5, Z76 p2), (6, vI r1.1), (20, .d (.ptr p1 0))] (by kernel_rfl) (by kernel_rfl) <| OBk.sg 85 H [25] [5, 6, 20, 21] 1 [(5, Z76 p2), (6, vI r1.1), (20, .d (.ptr p1 0)), (21, .d (.ptr p1 0))] (by kernel_rfl) (by kernel_rfl) <| OBk.sg 85 H [25] [5, 20, 21, 26] 1 (K70 p2 p1 [(21, .d (.ptr p1 0)), (26, vI r1.1)]) (by kernel_rfl) (by kernel_rfl) <| OBk.done (by kernel_rfl) ?_
   exact c67
  refine ad <| SW.ret <| af ?_
  cases h
  exact aA.ret [] (by kernel_rfl) rfl
 ·replace h := ao hc h
  refine SW.skip <| ad <| SW.S <| OWk.G 3 (K26 p0 p1 [(5, Z76 p2), (6, vI r1.1), (35, .d (.ptr p1 1))]) ?_
  obtain ⟨x6, hx, h⟩ := aa h
  refine OWk.O (d := some 36) (s := .bf (.ai p1 1) 1 (List.map cP.enc x6)) (K26 p0 p1 [(5, Z76 p2), (6, vI r1.1), (36, zO p1 x6)]) (BAt.ldL (c := cP) hx (by kernel_rfl)) <| OWk.G 1 (K26 p0 p1 [(5, Z76 p2), (6, vI r1.1), (36, zO p1 x6), (37, vI r1.1)]) ?_
  obtain ⟨x7, hx, h⟩ := aa h
  refine OWk.O (d := some 38) (s := aO (some (.ai p1 1)) [cP.enc x7]) (K26 p0 p1 [(5, Z76 p2), (6, vI r1.1), (38, .bO (.ai p1 1) [cP.enc x7])]) (BAt.pI (n := 1) hx (by kernel_rfl)) <| OWk.G 2 (K26 p0 p1 [(5, Z76 p2), (6, vI r1.1), (8, .d (cP.enc x7))]) <| OWk.E <| SW.S <| OWk.G 3 (K26 p0 p1 [(6, vI r1.1), (8, .d (cP.enc x7)), (40, .d (.ptr p0 0)), (41, .d (cP.enc x7)), (42, Z77 p2)]) ?_
  obtain ⟨i8, hp_i8, h⟩ := aa h
  refine OWk.asP x7 (fun p => (sp 85 (K26 p0 p1 [(6, vI r1.1), (8, .d (cP.enc p)), (40, .d (.ptr p0 0)), (41, .d (cP.enc p)), (42, Z77 p2)]) H)) (by kernel_rfl) hp_i8 ?_
  obtain ⟨r9, hr, h⟩ := aa h
  refine OWk.CH (some 43) (K26 p0 p1 [(6, vI r1.1), (8, .d (.ptr i8 0))]) (ih hr) <| OWk.E <| SW.seq <| SW.gz (by kernel_rfl) (by kernel_rfl) <| OBk.G 4 (K26 p0 p1 [(6, vI r1.1), (8, .d (.ptr i8 0)), (47, .d (.ptr i8 0))]) ?_
  obtain ⟨x10, hx, h⟩ := aa h
  refine OBk.O (d := some 48) (s := .bf (.ai i8 0) 3 (List.map ab x10)) (K26 p0 p1 [(6, vI r1.1), (8, .d (.ptr i8 0)), (48, Z78 i8 x10)]) (BAt.ldL (c := aK) hx (by kernel_rfl)) <| OBk.O (d := some 49) (K26 p0 p1 [(6, vI r1.1), (8, .d (.ptr i8 0)), (49, vI (x10.length : Int))]) (BAt.len (enc := ab) (xs := x10) (by kernel_rfl)) <| OBk.G 3 (K49 p1 r1.1 [(8, .d (.ptr i8 0)), (49, vI (x10.length : Int)), (52, .d (.ptr p0 3))]) ?_
  obtain ⟨x11, hx, h⟩ := aa h
  refine OBk.O (d := some 53) (s := vI x11) (K49 p1 r1.1 [(8, .d (.ptr i8 0)), (49, vI (x10.length : Int)), (53, vI x11)]) (BAt.ldH (c := (cI .i64).cell) hx (by kernel_rfl)) <| OBk.G 1 (K49 p1 r1.1 [(8, .d (.ptr i8 0)), (54, Cq x10 x11)]) <| OBk.done (by kernel_rfl) <| ad ?_
  refine SW.B (decide ((x10.length : Int) > x11)) (fun hc => ?_) (fun hc => ?_)
  ·replace h := an hc h
   refine SW.S <| OWk.G 1 (K49 p1 r1.1 [(56, .d (.ptr i8 0))]) ?_
   obtain ⟨r12, hr, h⟩ := aa h
   refine OWk.CH (some 57) (K49 p1 r1.1 [(57, .tup [.d (.agg [.list 3 (List.map ag r12.1.1.Row), .int .i64 r12.1.1.Key, .int .i64 r12.1.1.Number]), .d (cP.enc r12.1.2)])]) (oW hr) <| OWk.G 6 (K49 p1 r1.1 [(9, zM r12), (10, .d (cP.enc r12.1.2))]) <| OWk.E <| SW.seq ?_
   obtain ⟨q13, hq_5, h⟩ := aa h
   obtain ⟨r14, hr_9, h⟩ := aa h
   obtain ⟨H15, hx_13, h⟩ := aa h
   refine SW.K (K49 p1 r1.1 [(9, zM r12), (10, .d (cP.enc r12.1.2))]) ?_
   refine SW.nB 85 H15 (K100 p1 r1.1 r12.1.2 []) [0, 1, 6] 11 67 (by kernel_rfl) (by kernel_rfl) (by kernel_rfl) (fun X hX => ?_) ?_
   ·have c16383 : X 0 16383 (sp 85 (K100 p1 r1.1 r12.1.2 []) H15) := by subst hX; exact OX.fin (by kernel_rfl)
    have c8191 : X 1 8191 (sp 85 (K100 p1 r1.1 r12.1.2 [(69, eI r14), (72, .d (.ptr p1 0))]) q13.2) := by
     subst hX
     refine OX.step (i0 := 13) (is := []) (by kernel_rfl) (by kernel_rfl) ⟨?_, trivial⟩
     ·refine OWk.gvH (c := aK) (n' := 3) (s := 69) (xs := r14) 85 [1, 6, 10] (K100 p1 r1.1 r12.1.2 []) hx_13 (by kernel_rfl) (by kernel_rfl) <| OWk.D ?_
      exact c16383
    have c4095 : X 2 4095 (sp 85 (K100 p1 r1.1 r12.1.2 [(69, eI r14), (71, .d (.ptr p1 0))]) q13.2) := by
     subst hX
     refine OX.step (i0 := 12) (is := []) (by kernel_rfl) (by kernel_rfl) ⟨?_, trivial⟩
     ·refine OWk.sg 85 q13.2 [65] [1, 6, 10, 69, 72] 1 (K100 p1 r1.1 r12.1.2 [(69, eI r14), (72, .d (.ptr p1 0))]) (by kernel_rfl) <| OWk.D ?_
      exact c8191
    have c2047 : X 3 2047 (sp 85 (K100 p1 r1.1 r12.1.2 [(69, eI r14), (70, .d (.ptr p1 0))]) q13.2) := by
     subst hX
     refine OX.step (i0 := 11) (is := []) (by kernel_rfl) (by kernel_rfl) ⟨?_, trivial⟩
     ·refine OWk.sg 85 q13.2 [65] [1, 6, 10, 69, 71] 1 (K100 p1 r1.1 r12.1.2 [(69, eI r14), (71, .d (.ptr p1 0))]) (by kernel_rfl) <| OWk.D ?_
      exact c4095
    have c1023 : X 4 1023 (sp 85 (K10 p1 r1.1 r12.1.2 p1 [(69, eI r14)]) q13.2) := by
     subst hX
     refine OX.step (i0 := 10) (is := []) (by kernel_rfl) (by kernel_rfl) ⟨?_, trivial⟩
     ·refine OWk.sg 85 q13.2 [65] [1, 6, 10, 69, 70] 1 (K100 p1 r1.1 r12.1.2 [(69, eI r14), (70, .d (.ptr p1 0))]) (by kernel_rfl) <| OWk.D ?_
      exact c2047
    have c511 : X 5 511 (sp 85 (K10 p1 r1.1 r12.1.2 p1 [(65, iy q13), (66, vI r1.1), (68, lQ r12)]) q13.2) := by
     subst hX
     refine OX.step (i0 := 9) (is := []) (by kernel_rfl) (by kernel_rfl) ⟨?_, trivial⟩
     ·refine OWk.C (d := some 69) (ls := []) (gs := [(65, 0)]) [0] (K10 p1 r1.1 r12.1.2 p1 [(69, .own 3 (List.map ab r14))]) (iX hr_9) <| OWk.D ?_
      exact c1023
    have c255 : X 6 255 (sp 85 (K10 p1 r1.1 r12.1.2 p1 [(65, iy q13), (66, vI r1.1), (67, mI r12)]) q13.2) := by
     subst hX
     refine OX.step (i0 := 8) (is := []) (by kernel_rfl) (by kernel_rfl) ⟨?_, trivial⟩
     ·refine OWk.sg 85 q13.2 [65] [1, 6, 10, 60, 65, 66, 68] 1 (K10 p1 r1.1 r12.1.2 p1 [(65, iy q13), (66, vI r1.1), (68, wW r12)]) (by kernel_rfl) <| OWk.fz 85 q13.2 68 [1, 6, 10, 60, 65, 66, 68] (K10 p1 r1.1 r12.1.2 p1 [(65, iy q13), (66, vI r1.1), (68, lQ r12)]) (by kernel_rfl) <| OWk.D ?_
      exact c511
    have c127 : X 7 127 (sp 85 (K21 p1 r1.1 r12 r12.1.2 p1 [(65, iy q13), (66, vI r1.1)]) q13.2) := by
     subst hX
     refine OX.step (i0 := 7) (is := []) (by kernel_rfl) (by kernel_rfl) ⟨?_, trivial⟩
     ·refine OWk.sg 85 q13.2 [65] [1, 6, 10, 60, 65, 66, 67] 1 (K10 p1 r1.1 r12.1.2 p1 [(65, iy q13), (66, vI r1.1), (67, mI r12)]) (by kernel_rfl) <| OWk.D ?_
      exact c255
    have c479 : X 6 479 (sp 85 (K10 p1 r1.1 r12.1.2 p1 [(64, .d (.ptr p1 0)), (66, vI r1.1), (68, lQ r12)]) r12.2) := by
     subst hX
     refine OX.step (i0 := 5) (is := []) (by kernel_rfl) (by kernel_rfl) ⟨?_, trivial⟩
     ·refine OWk.tkH (c := aK) (n' := 3) (d := 65) (xs := q13.1) 85 [1, 6, 10, 60, 65, 66, 68] (K10 p1 r1.1 r12.1.2 p1 [(65, iy q13), (66, vI r1.1), (68, lQ r12)]) hq_5 (by kernel_rfl) (by kernel_rfl) <| OWk.D ?_
      exact c511
    have c223 : X 7 223 (sp 85 (K10 p1 r1.1 r12.1.2 p1 [(64, .d (.ptr p1 0)), (66, vI r1.1), (67, mI r12)]) r12.2) := by
     subst hX
     refine OX.step (i0 := 5) (is := [8]) (by kernel_rfl) (by kernel_rfl) ⟨?_, ?_, trivial⟩
     ·refine OWk.tkH (c := aK) (n' := 3) (d := 65) (xs := q13.1) 85 [1, 6, 10, 60, 65, 66, 67] (K10 p1 r1.1 r12.1.2 p1 [(65, iy q13), (66, vI r1.1), (67, mI r12)]) hq_5 (by kernel_rfl) (by kernel_rfl) <| OWk.D ?_
      exact c255
     ·refine OWk.sg 85 r12.2 [65] [1, 6, 10, 60, 64, 66, 68] 1 (K10 p1 r1.1 r12.1.2 p1 [(64, .d (.ptr p1 0)), (66, vI r1.1), (68, wW r12)]) (by kernel_rfl) <| OWk.fz 85 r12.2 68 [1, 6, 10, 60, 64, 66, 68] (K10 p1 r1.1 r12.1.2 p1 [(64, .d (.ptr p1 0)), (66, vI r1.1), (68, lQ r12)]) (by kernel_rfl) <| OWk.D ?_
      exact c479
    have c95 : X 8 95 (sp 85 (K21 p1 r1.1 r12 r12.1.2 p1 [(64, .d (.ptr p1 0)), (66, vI r1.1)]) r12.2) := by
     subst hX
     refine OX.step (i0 := 5) (is := [7]) (by kernel_rfl) (by kernel_rfl) ⟨?_, ?_, trivial⟩
     ·refine OWk.tkH (c := aK) (n' := 3) (d := 65) (xs := q13.1) 85 [1, 6, 9, 10, 60, 65, 66] (K21 p1 r1.1 r12 r12.1.2 p1 [(65, .own 3 (List.map ab q13.1)), (66, vI r1.1)]) hq_5 (by kernel_rfl) (by kernel_rfl) <| OWk.D ?_
      exact c127
     ·refine OWk.sg 85 r12.2 [65] [1, 6, 10, 60, 64, 66, 67] 1 (K10 p1 r1.1 r12.1.2 p1 [(64, .d (.ptr p1 0)), (66, vI r1.1), (67, mI r12)]) (by kernel_rfl) <| OWk.D ?_
      exact c223
    have c463 : X 7 463 (sp 85 (K10 p1 r1.1 r12.1.2 p1 [(63, .d (.ptr p1 0)), (66, vI r1.1), (68, lQ r12)]) r12.2) := by
     subst hX
     refine OX.step (i0 := 4) (is := []) (by kernel_rfl) (by kernel_rfl) ⟨?_, trivial⟩
     ·refine OWk.sg 85 r12.2 [65] [1, 6, 10, 60, 64, 66, 68] 1 (K10 p1 r1.1 r12.1.2 p1 [(64, .d (.ptr p1 0)), (66, vI r1.1), (68, lQ r12)]) (by kernel_rfl) <| OWk.D ?_
      exact c479
    have c207 : X 8 207 (sp 85 (K10 p1 r1.1 r12.1.2 p1 [(63, .d (.ptr p1 0)), (66, vI r1.1), (67, mI r12)]) r12.2) := by
     subst hX
     refine OX.step (i0 := 4) (is := [8]) (by kernel_rfl) (by kernel_rfl) ⟨?_, ?_, trivial⟩
     ·refine OWk.sg 85 r12.2 [65] [1, 6, 10, 60, 64, 66, 67] 1 (K10 p1 r1.1 r12.1.2 p1 [(64, .d (.ptr p1 0)), (66, vI r1.1), (67, mI r12)]) (by kernel_rfl) <| OWk.D ?_
      exact c223
     ·refine OWk.sg 85 r12.2 [65] [1, 6, 10, 60, 63, 66, 68] 1 (K10 p1 r1.1 r12.1.2 p1 [(63, .d (.ptr p1 0)), (66, vI r1.1), (68, wW r12)]) (by kernel_rfl) <| OWk.fz 85 r12.2 68 [1, 6, 10, 60, 63, 66, 68] (K10 p1 r1.1 r12.1.2 p1 [(63, .d (.ptr p1 0)), (66, vI r1.1), (68, lQ r12)]) (by kernel_rfl) <| OWk.D ?_
      exact c463
    have c79 : X 9 79 (sp 85 (K21 p1 r1.1 r12 r12.1.2 p1 [(63, .d (.ptr p1 0)), (66, vI r1.1)]) r12.2) := by
     subst hX
     refine OX.step (i0 := 4) (is := [7]) (by kernel_rfl) (by kernel_rfl) ⟨?_, ?_, trivial⟩
     ·refine OWk.sg 85 r12.2 [65] [1, 6, 9, 10, 60, 64, 66] 1 (K21 p1 r1.1 r12 r12.1.2 p1 [(64, .d (.ptr p1 0)), (66, vI r1.1)]) (by kernel_rfl) <| OWk.D ?_
      exact c95
     ·refine OWk.sg 85 r12.2 [65] [1, 6, 10, 60, 63, 66, 67] 1 (K10 p1 r1.1 r12.1.2 p1 [(63, .d (.ptr p1 0)), (66, vI r1.1), (67, mI r12)]) (by kernel_rfl) <| OWk.D ?_
      exact c207
    have c455 : X 8 455 (sp 85 (K10 p1 r1.1 r12.1.2 p1 [(62, .d (.ptr p1 0)), (66, vI r1.1), (68, lQ r12)]) r12.2) := by
     subst hX
     refine OX.step (i0 := 3) (is := []) (by kernel_rfl) (by kernel_rfl) ⟨?_, trivial⟩
     ·refine OWk.sg 85 r12.2 [65] [1, 6, 10, 60, 63, 66, 68] 1 (K10 p1 r1.1 r12.1.2 p1 [(63, .d (.ptr p1 0)), (66, vI r1.1), (68, lQ r12)]) (by kernel_rfl) <| OWk.D ?_
      exact c463
    have c199 : X 9 199 (sp 85 (K10 p1 r1.1 r12.1.2 p1 [(62, .d (.ptr p1 0)), (66, vI r1.1), (67, mI r12)]) r12.2) := by
     subst hX
     refine OX.step (i0 := 3) (is := [8]) (by kernel_rfl) (by kernel_rfl) ⟨?_, ?_, trivial⟩
     ·refine OWk.sg 85 r12.2 [65] [1, 6, 10, 60, 63, 66, 67] 1 (K10 p1 r1.1 r12.1.2 p1 [(63, .d (.ptr p1 0)), (66, vI r1.1), (67, mI r12)]) (by kernel_rfl) <| OWk.D ?_
      exact c207
     ·refine OWk.sg 85 r12.2 [65] [1, 6, 10, 60, 62, 66, 68] 1 (K10 p1 r1.1 r12.1.2 p1 [(62, .d (.ptr p1 0)), (66, vI r1.1), (68, wW r12)]) (by kernel_rfl) <| OWk.fz 85 r12.2 68 [1, 6, 10, 60, 62, 66, 68] (K10 p1 r1.1 r12.1.2 p1 [(62, .d (.ptr p1 0)), (66, vI r1.1), (68, lQ r12)]) (by kernel_rfl) <| OWk.D ?_
      exact c455
    have c71 : X 10 71 (sp 85 (K21 p1 r1.1 r12 r12.1.2 p1 [(62, .d (.ptr p1 0)), (66, vI r1.1)]) r12.2) := by
     subst hX
     refine OX.step (i0 := 3) (is := [7]) (by kernel_rfl) (by kernel_rfl) ⟨?_, ?_, trivial⟩
     ·refine OWk.sg 85 r12.2 [65] [1, 6, 9, 10, 60, 63, 66] 1 (K21 p1 r1.1 r12 r12.1.2 p1 [(63, .d (.ptr p1 0)), (66, vI r1.1)]) (by kernel_rfl) <| OWk.D ?_
      exact c79
     ·refine OWk.sg 85 r12.2 [65] [1, 6, 10, 60, 62, 66, 67] 1 (K10 p1 r1.1 r12.1.2 p1 [(62, .d (.ptr p1 0)), (66, vI r1.1), (67, mI r12)]) (by kernel_rfl) <| OWk.D ?_
      exact c199
    have c451 : X 9 451 (sp 85 (K10 p1 r1.1 r12.1.2 p1 [(61, .d (.ptr p1 0)), (66, vI r1.1), (68, lQ r12)]) r12.2) := by
     subst hX
     refine OX.step (i0 := 2) (is := []) (by kernel_rfl) (by kernel_rfl) ⟨?_, trivial⟩
     ·refine OWk.sg 85 r12.2 [65] [1, 6, 10, 60, 62, 66, 68] 1 (K10 p1 r1.1 r12.1.2 p1 [(62, .d (.ptr p1 0)), (66, vI r1.1), (68, lQ r12)]) (by kernel_rfl) <| OWk.D ?_
      exact c455
    have c195 : X 10 195 (sp 85 (K10 p1 r1.1 r12.1.2 p1 [(61, .d (.ptr p1 0)), (66, vI r1.1), (67, mI r12)]) r12.2) := by
     subst hX
     refine OX.step (i0 := 2) (is := [8]) (by kernel_rfl) (by kernel_rfl) ⟨?_, ?_, trivial⟩
     ·refine OWk.sg 85 r12.2 [65] [1, 6, 10, 60, 62, 66, 67] 1 (K10 p1 r1.1 r12.1.2 p1 [(62, .d (.ptr p1 0)), (66, vI r1.1), (67, mI r12)]) (by kernel_rfl) <| OWk.D ?_
      exact c199
     ·refine OWk.sg 85 r12.2 [65] [1, 6, 10, 60, 61, 66, 68] 1 (K10 p1 r1.1 r12.1.2 p1 [(61, .d (.ptr p1 0)), (66, vI r1.1), (68, wW r12)]) (by kernel_rfl) <| OWk.fz 85 r12.2 68 [1, 6, 10, 60, 61, 66, 68] (K10 p1 r1.1 r12.1.2 p1 [(61, .d (.ptr p1 0)), (66, vI r1.1), (68, lQ r12)]) (by kernel_rfl) <| OWk.D ?_
      exact c451
    have c67 : X 11 67 (sp 85 (K21 p1 r1.1 r12 r12.1.2 p1 [(61, .d (.ptr p1 0)), (66, vI r1.1)]) r12.2) := by
     subst hX
     refine OX.step (i0 := 2) (is := [7]) (by kernel_rfl) (by kernel_rfl) ⟨?_, ?_, trivial⟩
     ·refine OWk.sg 85 r12.2 [65] [1, 6, 9, 10, 60, 62, 66] 1 (K21 p1 r1.1 r12 r12.1.2 p1 [(62, .d (.ptr p1 0)), (66, vI r1.1)]) (by kernel_rfl) <| OWk.D ?_
      exact c71
     ·refine OWk.sg 85 r12.2 [65] [1, 6, 10, 60, 61, 66, 67] 1 (K10 p1 r1.1 r12.1.2 p1 [(61, .d (.ptr p1 0)), (66, vI r1.1), (67, mI r12)]) (by kernel_rfl) <| OWk.D ?_
      exact c195
    refine OBk.sg 85 r12.2 [65] [1, 6, 9, 10, 60] 1 (K21 p1 r1.1 r12 r12.1.2 p1 []) (by kernel_rfl) (by kernel_rfl) <| OBk.sg 85 r12.2 [65] [1, 6, 9, 10, 60, 61] 1 (K21 p1 r1.1 r12 r12.1.2 p1 [(61, .d (.ptr p1 0))]) (by kernel_rfl) (by kernel_rfl) <| OBk.sg 85 r12.2 [65] [1, 6, 9, 10, 60, 61, 66] 1 (K21 p1 r1.1 r12 r12.1.2 p1 [(61, .d (.ptr p1 0)), (66, vI r1.1)]) (by kernel_rfl) (by kernel_rfl) <| OBk.done (by kernel_rfl) ?_
    exact c67
   refine ad <| SW.au <| OWk.sg 85 H15 [77] [6, 10, 73, 76] 4 [(6, vI r1.1), (10, .d (cP.enc r12.1.2)), (73, .d (.ptr p1 0)), (76, .d (.ptr p1 1))] (by kernel_rfl) ?_
   obtain ⟨q16, hq, h⟩ := aa h
   refine OWk.tkH (c := cP) (n' := 1) (d := 77) (xs := q16.1) 85 [6, 10, 73, 77] [(6, vI r1.1), (10, .d (cP.enc r12.1.2)), (73, .d (.ptr p1 0)), (77, .own 1 (List.map cP.enc q16.1))] hq (by kernel_rfl) (by kernel_rfl) <| OWk.sg 85 q16.2 [77] [73, 77, 79, 80] 3 [(73, .d (.ptr p1 0)), (77, yF q16), (79, zL r1), (80, .d (cP.enc r12.1.2))] (by kernel_rfl) ?_
   obtain ⟨i17, hp_i17, h⟩ := aa h
   refine OWk.asP r12.1.2 (fun p => (sp 85 [(73, .d (.ptr p1 0)), (77, yF q16), (79, zL r1), (80, .d (cP.enc p))] q16.2)) (by kernel_rfl) hp_i17 <| OWk.G 1 [(73, .d (.ptr p1 0)), (77, yF q16), (79, zL r1), (81, Ck i17)] <| OWk.fz 85 q16.2 81 [73, 77, 79, 81] [(73, .d (.ptr p1 0)), (77, yF q16), (79, zL r1), (81, Ed i17)] (by kernel_rfl) ?_
   obtain ⟨r18, hr, h⟩ := aa h
   refine OWk.C (d := some 82) (ls := []) (gs := [(77, 0)]) [0] [(73, .d (.ptr p1 0)), (82, .own 1 (List.map cP.enc r18))] (jT hr) <| OWk.sg 85 q16.2 [77] [82, 84] 2 [(82, wX r18), (84, .d (.ptr p1 1))] (by kernel_rfl) ?_
   obtain ⟨H19, hx, h⟩ := aa h
   refine OWk.gvH (c := cP) (n' := 1) (s := 82) (xs := r18) 85 [] [] hx (by kernel_rfl) (by kernel_rfl) <| OWk.D ?_
   cases h
   exact aA.normal [] (by kernel_rfl) rfl
  ·replace h := ao hc h
   refine SW.skip ?_
   cases h
   exact aA.normal [] (by kernel_rfl) rfl
theorem qg {fuel : Nat} : ∀ {p0 : Nat} {p1 : Nat} {p2 : Entry} {H : Hp} {r : (Unit) × Hp}, lC fuel p0 p1 p2 H = some r → SC Try.prog false 60 [.d (.ptr p0 0), .d (.ptr p1 0), .d (ab p2)] H (.tup []) r.2 := by
 induction fuel with
 | zero => intros; rename_i h; exact nomatch (show (none : Option ((Unit) × Hp)) = some _ from h)
 | succ fuel ih => exact fun h => n5 ih h
def iK (fuel : Nat) (p0 : Nat) (p1 : Entry) (H : Hp) : Option ((Unit) × Hp) :=
 (bg cP.cell H p0 4).bind fun x1 =>
 x1.bind fun i2 =>
 (lC fuel p0 i2 p1 H).bind fun r3 =>
 (bg cP.cell r3.2 p0 4).bind fun x4 =>
 x4.bind fun i5 =>
 (cp 3 aK r3.2 i5 0).bind fun x6 =>
 (bg (cI .i64).cell r3.2 p0 3).bind fun x7 =>
 bif (decide ((x6.length : Int) > x7)) then
  (bg cP.cell r3.2 p0 4).bind fun x8 =>
  x8.bind fun i9 =>
  (oC fuel i9 r3.2).bind fun r10 =>
  r10.1.2.bind fun i11 =>
  (mw r10.2 (.cells [.d (.list 3 (List.map ab [r10.1.1])), .d (.list 1 (List.map cP.enc [(some i9), (some i11)]))])).bind fun q12 =>
  (dA cP q12.1 p0 4 (some q12.2)).bind fun H13 =>
  (bg (cI .i64).cell H13 p0 6).bind fun x14 =>
  (dA (cI .i64) H13 p0 6 (IntKind.wrap .i64 (x14 + 1))).bind fun H15 =>
  some ((), H15)
 else
  (bg (cI .i64).cell r3.2 p0 6).bind fun x16 =>
  (dA (cI .i64) r3.2 p0 6 (IntKind.wrap .i64 (x16 + 1))).bind fun H17 =>
  some ((), H17)
def zK (x0 : ((Entry × (Option Nat)) × Hp)) : SV := .d (.agg [.list 3 (List.map ab [x0.1.1])])
def Ec (x0 : Nat) (x1 : Nat) : SV := .own 1 (List.map cP.enc [(some x0), (some x1)])
def Eb (x0 : ((Entry × (Option Nat)) × Hp)) (x1 : Nat) (x2 : Nat) : SV := .d (.agg [.list 3 (List.map ab [x0.1.1]), .list 1 (List.map cP.enc [(some x1), (some x2)])])
def Ea (x0 : Nat) (x1 : Nat) : SV := .d (.list 1 (List.map cP.enc [(some x0), (some x1)]))
def K86 := fun a0 a1 (t : SL) => ((0, .d (.ptr a0 0)) :: (37, .d (.ptr a1 0)) :: t : SL)
theorem mT {fuel : Nat} {p0 : Nat} {p1 : Entry} {H : Hp} {r : (Unit) × Hp} (h : iK fuel p0 p1 H = some r) : SC Try.prog false 43 [.d (.ptr p0 0), .d (ab p1)] H (.tup []) r.2 := by
 refine SC.ga Try.func43 rfl ?_
 unfold iK at h
 refine SW.kp 55 H [0, 1] [(0, .d (.ptr p0 0)), (1, Z77 p1)] (by kernel_rfl) <| SW.R 1 [(0, .d (.ptr p0 0)), (3, Z76 p1)] <| SW.seq <| SW.seq <| SW.fD 6 (by kernel_rfl) (by kernel_rfl) <| OBk.G 4 [(0, .d (.ptr p0 0)), (3, Z76 p1), (7, .d (.ptr p0 0)), (10, .d (.ptr p0 4))] ?_
 obtain ⟨x1, hx, h⟩ := aa h
 refine OBk.O (d := some 11) (s := .d (cP.enc x1)) [(0, .d (.ptr p0 0)), (3, Z76 p1), (7, .d (.ptr p0 0)), (11, .d (cP.enc x1))] (BAt.ldH (c := cP.cell) hx (by kernel_rfl)) <| OBk.G 1 [(0, .d (.ptr p0 0)), (7, .d (.ptr p0 0)), (11, .d (cP.enc x1)), (12, Z77 p1)] <| OBk.done (by kernel_rfl) ?_
 obtain ⟨i2, hp_i2, h⟩ := aa h
 refine OWk.asP x1 (fun p => (sp 55 [(0, .d (.ptr p0 0)), (7, .d (.ptr p0 0)), (11, .d (cP.enc p)), (12, Z77 p1)] H)) (by kernel_rfl) hp_i2 ?_
 obtain ⟨r3, hr, h⟩ := aa h
 refine OWk.CH (some 13) [(0, .d (.ptr p0 0))] (qg hr) <| OWk.E <| SW.seq <| SW.gz (by kernel_rfl) (by kernel_rfl) <| OBk.G 3 [(0, .d (.ptr p0 0)), (16, .d (.ptr p0 4))] ?_
 obtain ⟨x4, hx, h⟩ := aa h
 refine OBk.O (d := some 17) (s := .d (cP.enc x4)) [(0, .d (.ptr p0 0)), (17, .d (cP.enc x4))] (BAt.ldH (c := cP.cell) hx (by kernel_rfl)) ?_
 obtain ⟨i5, hp_i5, h⟩ := aa h
 refine OBk.O (d := some 18) (s := .d (.ptr i5 0)) [(0, .d (.ptr p0 0)), (18, .d (.ptr i5 0))] (BAt.oe (p := x4) hp_i5 (by kernel_rfl)) <| OBk.G 2 [(0, .d (.ptr p0 0)), (20, .d (.ptr i5 0))] ?_
 obtain ⟨x6, hx, h⟩ := aa h
 refine OBk.O (d := some 21) (s := .bf (.ai i5 0) 3 (List.map ab x6)) [(0, .d (.ptr p0 0)), (21, Z78 i5 x6)] (BAt.ldL (c := aK) hx (by kernel_rfl)) <| OBk.O (d := some 22) [(0, .d (.ptr p0 0)), (22, vI (x6.length : Int))] (BAt.len (enc := ab) (xs := x6) (by kernel_rfl)) <| OBk.G 3 [(0, .d (.ptr p0 0)), (22, vI (x6.length : Int)), (25, .d (.ptr p0 3))] ?_
 obtain ⟨x7, hx, h⟩ := aa h
 refine OBk.O (d := some 26) (s := vI x7) [(0, .d (.ptr p0 0)), (22, vI (x6.length : Int)), (26, vI x7)] (BAt.ldH (c := (cI .i64).cell) hx (by kernel_rfl)) <| OBk.G 1 [(0, .d (.ptr p0 0)), (27, Cq x6 x7)] <| OBk.done (by kernel_rfl) <| ad ?_
 refine SW.B (decide ((x6.length : Int) > x7)) (fun hc => ?_) (fun hc => ?_)
 ·replace h := an hc h
  refine SW.S <| OWk.G 3 [(0, .d (.ptr p0 0)), (30, .d (.ptr p0 4))] ?_
  obtain ⟨x8, hx, h⟩ := aa h
  refine OWk.O (d := some 31) (s := .d (cP.enc x8)) [(0, .d (.ptr p0 0)), (31, .d (cP.enc x8))] (BAt.ldH (c := cP.cell) hx (by kernel_rfl)) <| OWk.G 1 [(0, .d (.ptr p0 0)), (4, .d (cP.enc x8))] <| OWk.E <| SW.S <| OWk.G 1 [(0, .d (.ptr p0 0)), (4, .d (cP.enc x8)), (33, .d (cP.enc x8))] ?_
  obtain ⟨i9, hp_i9, h⟩ := aa h
  refine OWk.asP x8 (fun p => (sp 55 [(0, .d (.ptr p0 0)), (4, .d (cP.enc p)), (33, .d (cP.enc p))] r3.2)) (by kernel_rfl) hp_i9 ?_
  obtain ⟨r10, hr, h⟩ := aa h
  refine OWk.CH (some 34) [(0, .d (.ptr p0 0)), (4, .d (.ptr i9 0)), (34, .tup [.d (.agg [.list 3 (List.map ag r10.1.1.Row), .int .i64 r10.1.1.Key, .int .i64 r10.1.1.Number]), .d (cP.enc r10.1.2)])] (oW hr) <| OWk.G 6 [(0, .d (.ptr p0 0)), (4, .d (.ptr i9 0)), (5, zM r10), (6, .d (cP.enc r10.1.2))] <| OWk.E <| SW.au <| OWk.G 3 [(0, .d (.ptr p0 0)), (4, .d (.ptr i9 0)), (6, .d (cP.enc r10.1.2)), (37, .d (.ptr p0 0)), (39, wW r10)] <| OWk.fz 55 r10.2 39 [0, 4, 6, 37, 39] [(0, .d (.ptr p0 0)), (4, .d (.ptr i9 0)), (6, .d (cP.enc r10.1.2)), (37, .d (.ptr p0 0)), (39, lQ r10)] (by kernel_rfl) <| OWk.G 3 (K86 p0 p0 [(40, zK r10), (41, .d (.ptr i9 0)), (42, .d (cP.enc r10.1.2))]) ?_
  obtain ⟨i11, hp_i11, h⟩ := aa h
  refine OWk.asP r10.1.2 (fun p => (sp 55 (K86 p0 p0 [(40, zK r10), (41, .d (.ptr i9 0)), (42, .d (cP.enc p))]) r10.2)) (by kernel_rfl) hp_i11 <| OWk.G 1 (K86 p0 p0 [(40, zK r10), (43, Ec i9 i11)]) <| OWk.fz 55 r10.2 43 [0, 37, 40, 43] (K86 p0 p0 [(40, zK r10), (43, Ea i9 i11)]) (by kernel_rfl) <| OWk.G 1 (K86 p0 p0 [(44, Eb r10 i9 i11)]) ?_
  obtain ⟨q12, hq, h⟩ := aa h
  refine OWk.iQ 55 q12.1 (d := some 45) (b := false) [] [0, 37, 45] (K86 p0 p0 [(45, .d (.ptr q12.2 0))]) hq (by kernel_rfl) rfl (by kernel_rfl) <| OWk.G 2 [(0, .d (.ptr p0 0)), (45, .d (.ptr q12.2 0)), (47, .d (.ptr p0 4))] ?_
  obtain ⟨H13, hx, h⟩ := aa h
  refine OWk.hst 55 H13 [0] [(0, .d (.ptr p0 0))] hx (by kernel_rfl) (by kernel_rfl) <| OWk.E <| SW.au <| OWk.G 3 [(48, .d (.ptr p0 0)), (50, .d (.ptr p0 6))] ?_
  obtain ⟨x14, hx, h⟩ := aa h
  refine OWk.O (d := some 51) (s := vI x14) [(48, .d (.ptr p0 0)), (51, vI x14)] (BAt.ldH (c := (cI .i64).cell) hx (by kernel_rfl)) <| OWk.G 3 [(52, Z18 x14), (54, .d (.ptr p0 6))] ?_
  obtain ⟨H15, hx, h⟩ := aa h
  refine OWk.hst 55 H15 [] [] hx (by kernel_rfl) (by kernel_rfl) <| OWk.D ?_
  cases h
  exact aA.normal [] (by kernel_rfl) rfl
 ·replace h := ao hc h
  refine SW.skip <| ad <| SW.au <| OWk.G 3 [(48, .d (.ptr p0 0)), (50, .d (.ptr p0 6))] ?_
  obtain ⟨x16, hx, h⟩ := aa h
  refine OWk.O (d := some 51) (s := vI x16) [(48, .d (.ptr p0 0)), (51, vI x16)] (BAt.ldH (c := (cI .i64).cell) hx (by kernel_rfl)) <| OWk.G 3 [(52, Z18 x16), (54, .d (.ptr p0 6))] ?_
  obtain ⟨H17, hx, h⟩ := aa h
  refine OWk.hst 55 H17 [] [] hx (by kernel_rfl) (by kernel_rfl) <| OWk.D ?_
  cases h
  exact aA.normal [] (by kernel_rfl) rfl
def iM (fuel : Nat) (p0 : Nat) (p1 : (List Value)) (p2 : Int) (H : Hp) : Option ((Int × Int) × Hp) :=
 (jl fuel p0 p1 p2 H).bind fun r1 =>
 bif (r1 != 0) then
  some ((0, r1), H)
 else
  aX (fun (j2 : Hp) =>
   (bg (cI .i64).cell j2 p0 5).bind fun x8 =>
   (dA (cI .i64) j2 p0 5 (IntKind.wrap .i64 (x8 + 1))).bind fun H9 =>
   (cG fuel p1).bind fun r10 =>
   (bg (cI .i64).cell H9 p0 5).bind fun x11 =>
   (iK fuel p0 (⟨r10, p2, x11⟩ : Entry) H9).bind fun r12 =>
   (bg (cI .i64).cell r12.2 p0 5).bind fun x13 =>
   some ((x13, 0), r12.2)) fun jp3 =>
  (bg (cI .i64).cell H p0 2).bind fun x4 =>
  bif (x4 == 1) then
   (lD fuel p0 p1 H).bind fun r5 =>
   bif r5.1 then
    some ((0, 6), r5.2)
   else
    (bg (cI .i64).cell r5.2 p0 6).bind fun x6 =>
    bif (decide (x6 ≥ 500)) then
     some ((0, 4), r5.2)
    else
     jp3 r5.2
  else
   (bg (cI .i64).cell H p0 6).bind fun x7 =>
   bif (decide (x7 ≥ 500)) then
    some ((0, 4), H)
   else
    jp3 H
def K24 := fun a0 a1 (t : SL) => ((0, .d (.ptr a0 0)) :: (41, .d (.ptr a1 0)) :: t : SL)
def K92 := fun a0 a1 a2 a3 (t : SL) => ((0, .d (.ptr a0 0)) :: (41, .d (.ptr a1 0)) :: (43, Z74 a2) :: (44, vI a3) :: t : SL)
def K101 := fun a0 a1 a2 a3 (t : SL) => ((0, .d (.ptr a0 0)) :: (41, .d (.ptr a1 0)) :: (42, Z13 a2) :: (44, vI a3) :: t : SL)
theorem mV {fuel : Nat} {p0 : Nat} {p1 : (List Value)} {p2 : Int} {H : Hp} {r : (Int × Int) × Hp} (h : iM fuel p0 p1 p2 H = some r) : SC Try.prog false 18 [.d (.ptr p0 0), .d (.list 3 (List.map ag p1)), vI p2] H (.tup [vI r.1.1, vI r.1.2]) r.2 := by
 refine SC.ga Try.func18 rfl ?_
 unfold iM at h
 refine SW.kp 55 H [0, 1, 2] (K16 p0 p1 p2 []) (by kernel_rfl) <| SW.R 1 (K16 p0 p1 p2 []) <| SW.seq <| SW.S <| OWk.G 3 (K16 p0 p1 p2 [(9, .d (.ptr p0 0)), (10, Z13 p1), (11, vI p2)]) ?_
 obtain ⟨r1, hr, h⟩ := aa h
 refine OWk.CR (ls := []) (some 12) (K16 p0 p1 p2 [(12, vI r1)]) (n7 hr) <| OWk.G 1 (K16 p0 p1 p2 [(8, vI r1)]) <| OWk.E <| SW.R 1 (K16 p0 p1 p2 [(8, vI r1), (14, vB (r1 != 0))]) ?_
 refine SW.B (r1 != 0) (fun hc => ?_) (fun hc => ?_)
 ·replace h := an hc h
  refine SW.R 1 [(6, vI 0), (7, vI r1)] <| SW.ret <| af ?_
  cases h
  exact aA.ret [] (by kernel_rfl) rfl
 ·replace h := ao hc h
  refine SW.skip <| ad ?_
  obtain ⟨jp3, hjjp3, h⟩ := bt h
  refine SW.jnH 55 [0, 1, 2] (fun (j2 : Hp) => (K16 p0 p1 p2 [])) (fun (j2 : Hp) => j2) (fun v => jp3 v = some r) (fun j2 h => ?_) ?_
  ·rw [hjjp3] at h
   refine SW.S <| OWk.G 3 (K16 p0 p1 p2 [(34, .d (.ptr p0 0)), (36, .d (.ptr p0 5))]) ?_
   obtain ⟨x8, hx, h⟩ := aa h
   refine OWk.O (d := some 37) (s := vI x8) (K16 p0 p1 p2 [(34, .d (.ptr p0 0)), (37, vI x8)]) (BAt.ldH (c := (cI .i64).cell) hx (by kernel_rfl)) <| OWk.G 3 (K16 p0 p1 p2 [(38, Z18 x8), (40, .d (.ptr p0 5))]) ?_
   obtain ⟨H9, hx, h⟩ := aa h
   refine OWk.hst 55 H9 [0, 1, 2] (K16 p0 p1 p2 []) hx (by kernel_rfl) (by kernel_rfl) <| OWk.E <| SW.seq ?_
   obtain ⟨r10, hr_2, h⟩ := aa h
   obtain ⟨x11, hx11, h⟩ := aa h
   obtain ⟨r12, hr_9, h⟩ := aa h
   refine SW.K (K16 p0 p1 p2 []) ?_
   refine SW.nB 55 r12.2 [(0, .d (.ptr p0 0))] [0, 1, 3, 4] 6 27 (by kernel_rfl) (by kernel_rfl) (by kernel_rfl) (fun X hX => ?_) ?_
   ·have c1023 : X 0 1023 (sp 55 [(0, .d (.ptr p0 0))] r12.2) := by subst hX; exact OX.fin (by kernel_rfl)
    have c511 : X 1 511 (sp 55 (K24 p0 p0 [(49, Z75 r10 p2 x11)]) H9) := by
     subst hX
     refine OX.step (i0 := 9) (is := []) (by kernel_rfl) (by kernel_rfl) ⟨?_, trivial⟩
     ·refine OWk.CH (some 50) [(0, .d (.ptr p0 0))] (mT hr_9) <| OWk.D ?_
      exact c1023
    have c255 : X 2 255 (sp 55 (K92 p0 p0 r10 p2 [(48, vI x11)]) H9) := by
     subst hX
     refine OX.step (i0 := 8) (is := []) (by kernel_rfl) (by kernel_rfl) ⟨?_, trivial⟩
     ·refine OWk.fz 55 H9 43 [0, 41, 43, 44, 48] (K24 p0 p0 [(43, Z13 r10), (44, vI p2), (48, vI x11)]) (by kernel_rfl) <| OWk.G 1 (K24 p0 p0 [(49, Z75 r10 p2 x11)]) <| OWk.D ?_
      exact c511
    have c127 : X 3 127 (sp 55 (K92 p0 p0 r10 p2 [(47, .d (.ptr p0 5))]) H9) := by
     subst hX
     refine OX.step (i0 := 7) (is := []) (by kernel_rfl) (by kernel_rfl) ⟨?_, trivial⟩
     ·refine OWk.O (d := some 48) (s := vI x11) (K92 p0 p0 r10 p2 [(48, vI x11)]) (BAt.ldH (c := (cI .i64).cell) hx11 (by kernel_rfl)) <| OWk.D ?_
      exact c255
    have c63 : X 4 63 (sp 55 (K92 p0 p0 r10 p2 [(46, .d (.ptr p0 0))]) H9) := by
     subst hX
     refine OX.step (i0 := 6) (is := []) (by kernel_rfl) (by kernel_rfl) ⟨?_, trivial⟩
     ·refine OWk.G 1 (K92 p0 p0 r10 p2 [(47, .d (.ptr p0 5))]) <| OWk.D ?_
      exact c127
    have c31 : X 5 31 (sp 55 (K92 p0 p0 r10 p2 [(45, .d (.ptr p0 0))]) H9) := by
     subst hX
     refine OX.step (i0 := 5) (is := []) (by kernel_rfl) (by kernel_rfl) ⟨?_, trivial⟩
     ·refine OWk.G 1 (K92 p0 p0 r10 p2 [(46, .d (.ptr p0 0))]) <| OWk.D ?_
      exact c63
    have c251 : X 3 251 (sp 55 (K101 p0 p0 p1 p2 [(48, vI x11)]) H9) := by
     subst hX
     refine OX.step (i0 := 2) (is := []) (by kernel_rfl) (by kernel_rfl) ⟨?_, trivial⟩
     ·refine OWk.C0 (some 43) (K92 p0 p0 r10 p2 [(48, vI x11)]) (cA hr_2) <| OWk.D ?_
      exact c255
    have c123 : X 4 123 (sp 55 (K101 p0 p0 p1 p2 [(47, .d (.ptr p0 5))]) H9) := by
     subst hX
     refine OX.step (i0 := 2) (is := [7]) (by kernel_rfl) (by kernel_rfl) ⟨?_, ?_, trivial⟩
     ·refine OWk.C0 (some 43) (K92 p0 p0 r10 p2 [(47, .d (.ptr p0 5))]) (cA hr_2) <| OWk.D ?_
      exact c127
     ·refine OWk.O (d := some 48) (s := vI x11) (K101 p0 p0 p1 p2 [(48, vI x11)]) (BAt.ldH (c := (cI .i64).cell) hx11 (by kernel_rfl)) <| OWk.D ?_
      exact c251
    have c59 : X 5 59 (sp 55 (K101 p0 p0 p1 p2 [(46, .d (.ptr p0 0))]) H9) := by
     subst hX
     refine OX.step (i0 := 2) (is := [6]) (by kernel_rfl) (by kernel_rfl) ⟨?_, ?_, trivial⟩
     ·refine OWk.C0 (some 43) (K92 p0 p0 r10 p2 [(46, .d (.ptr p0 0))]) (cA hr_2) <| OWk.D ?_
      exact c63
     ·refine OWk.G 1 (K101 p0 p0 p1 p2 [(47, .d (.ptr p0 5))]) <| OWk.D ?_
      exact c123
    have c27 : X 6 27 (sp 55 (K101 p0 p0 p1 p2 [(45, .d (.ptr p0 0))]) H9) := by
     subst hX
     refine OX.step (i0 := 2) (is := [5]) (by kernel_rfl) (by kernel_rfl) ⟨?_, ?_, trivial⟩
     ·refine OWk.C0 (some 43) (K24 p0 p0 [(43, .own 3 (List.map ag r10)), (44, vI p2), (45, .d (.ptr p0 0))]) (cA hr_2) <| OWk.D ?_
      exact c31
     ·refine OWk.G 1 (K101 p0 p0 p1 p2 [(46, .d (.ptr p0 0))]) <| OWk.D ?_
      exact c59
    refine OBk.G 1 (K16 p0 p1 p2 [(41, .d (.ptr p0 0))]) <| OBk.G 1 [(0, .d (.ptr p0 0)), (2, vI p2), (41, .d (.ptr p0 0)), (42, Z13 p1)] <| OBk.G 1 (K101 p0 p0 p1 p2 []) <| OBk.G 1 (K101 p0 p0 p1 p2 [(45, .d (.ptr p0 0))]) <| OBk.done (by kernel_rfl) ?_
    exact c27
   refine ad <| SW.S <| OWk.G 3 [(53, .d (.ptr p0 5))] ?_
   obtain ⟨x13, hx, h⟩ := aa h
   refine OWk.O (d := some 54) (s := vI x13) [(54, vI x13)] (BAt.ldH (c := (cI .i64).cell) hx (by kernel_rfl)) <| OWk.G 2 [(6, vI x13), (7, vI 0)] <| OWk.E <| SW.ret ?_
   cases h
   exact aA.ret [] (by kernel_rfl) rfl
  ·refine SW.block <| SW.S <| OWk.G 4 (K16 p0 p1 p2 [(20, .d (.ptr p0 2))]) ?_
   obtain ⟨x4, hx, h⟩ := aa h
   refine OWk.O (d := some 21) (s := vI x4) (K16 p0 p1 p2 [(21, vI x4)]) (BAt.ldH (c := (cI .i64).cell) hx (by kernel_rfl)) <| OWk.G 2 (K16 p0 p1 p2 [(23, vB (x4 == 1))]) ?_
   refine OWk.case (x4 == 1) (fun b => (sp 55 (K16 p0 p1 p2 [(23, vB b)]) H)) (by kernel_rfl) (fun hc => ?_) (fun hc => ?_)
   ·replace h := an hc h
    refine OWk.G 2 (K16 p0 p1 p2 [(23, vB true), (24, .d (.ptr p0 0)), (25, Z13 p1)]) ?_
    obtain ⟨r5, hr, h⟩ := aa h
    refine OWk.CH (some 26) (K16 p0 p1 p2 [(23, vB true), (26, vB r5.1)]) (qh hr) <| OWk.G 2 (K16 p0 p1 p2 [(16, vB r5.1)]) <| OWk.E ?_
    refine SW.B r5.1 (fun hc => ?_) (fun hc => ?_)
    ·replace h := an hc h
     refine SW.R 1 [(6, vI 0), (7, vI 6)] <| SW.ret <| ax <| af ?_
     cases h
     exact aA.ret [] (by kernel_rfl) rfl
    ·replace h := ao hc h
     refine SW.S <| OWk.G 3 (K16 p0 p1 p2 [(31, .d (.ptr p0 6))]) ?_
     obtain ⟨x6, hx, h⟩ := aa h
     refine OWk.O (d := some 32) (s := vI x6) (K16 p0 p1 p2 [(32, vI x6)]) (BAt.ldH (c := (cI .i64).cell) hx (by kernel_rfl)) <| OWk.G 2 (K16 p0 p1 p2 [(28, vB (decide (x6 ≥ 500)))]) <| OWk.E ?_
     refine SW.B (decide (x6 ≥ 500)) (fun hc => ?_) (fun hc => ?_)
     ·replace h := an hc h
      refine SW.R 1 [(6, vI 0), (7, vI 4)] <| SW.ret <| ax <| af ?_
      cases h
      exact aA.ret [] (by kernel_rfl) rfl
     ·replace h := ao hc h
      refine SW.skip <| aH ?_
      exact ⟨r5.2, [], by kernel_rfl, h⟩
   ·replace h := ao hc h
    refine OWk.G 5 (K16 p0 p1 p2 [(16, vB false)]) <| OWk.E <| SW.fh (by kernel_rfl) <| SW.S <| OWk.G 3 (K16 p0 p1 p2 [(31, .d (.ptr p0 6))]) ?_
    obtain ⟨x7, hx, h⟩ := aa h
    refine OWk.O (d := some 32) (s := vI x7) (K16 p0 p1 p2 [(32, vI x7)]) (BAt.ldH (c := (cI .i64).cell) hx (by kernel_rfl)) <| OWk.G 2 (K16 p0 p1 p2 [(28, vB (decide (x7 ≥ 500)))]) <| OWk.E ?_
    refine SW.B (decide (x7 ≥ 500)) (fun hc => ?_) (fun hc => ?_)
    ·replace h := an hc h
     refine SW.R 1 [(6, vI 0), (7, vI 4)] <| SW.ret <| ax <| af ?_
     cases h
     exact aA.ret [] (by kernel_rfl) rfl
    ·replace h := ao hc h
     refine SW.skip <| aH ?_
     exact ⟨H, [], by kernel_rfl, h⟩
def lu (fuel : Nat) (p0 : Nat) (H : Hp) : Option (Unit) :=
 some ()
def wV (x0 : Int × Hp) : SV := vI (IntKind.wrap .i64 (x0.1 + 1))
def A4 (x0 : Int) : SV := .d (.list 3 (List.map ag [(⟨1, x0, []⟩ : Value)]))
def Ch (x0 : Nat) : SV := .d (.fn (.func 69) [] [.aR [.ptr x0 0]])
theorem qf {fuel : Nat} {p0 : Nat} {H : Hp} {r : Unit} (h : lu fuel p0 H = some r) : SC Try.prog true 59 [.d (.ptr p0 0)] H (.d (.fn (.func 69) [] [.aR [.ptr p0 0]])) H := by
 refine SC.gL Try.func59 rfl ?_
 unfold lu at h
 refine SW.kp 4 H [0] [(0, .d (.ptr p0 0))] (by kernel_rfl) <| SW.S <| OWk.bxf 4 H (d := 1) (ds := [.ptr p0 0]) [1] [(1, .d (.aR [.ptr p0 0]))] (by kernel_rfl) (by kernel_rfl) <| OWk.G 1 [(1, .d (.aR [.ptr p0 0]))] <| OWk.E <| SW.R 1 [(2, Ch p0)] <| SW.ret ?_
 cases h
 exact aA.ret [] (by kernel_rfl) rfl
def g6 (fuel : Nat) (Y : Entry → Hp → Option (Bool × Hp)) (rc : Nat → Hp → Option (Bool × Hp)) (p : Nat) (n : Int) (x : Int × Hp) : Option ((Int × Hp) ⊕ (Bool × Hp)) :=
 cond (decide (x.1 < n))
  ((dh fuel p x.2).bind fun lf =>
  (cond lf (some (true, x.2)) ((cp 1 cP x.2 p 1).bind fun ks => (idx ks x.1).bind fun k => k.bind fun k => rc k x.2)).bind fun q =>
  cond q.1
   ((cp 3 aK q.2 p 0).bind fun es =>
   cond (decide (x.1 < (es.length : Int)))
    ((idx es x.1).bind fun e => (Y e q.2).bind fun y => cond y.1 (some (.inl (IntKind.wrap .i64 (x.1 + 1), y.2))) (some (.inr (false, y.2))))
    (some (.inl (IntKind.wrap .i64 (x.1 + 1), q.2))))
   (some (.inr (false, q.2))))
  (some (.inr (true, x.2)))
def iA (fuel : Nat) (Y : Entry → Hp → Option (Bool × Hp)) : Nat → Nat → Hp → Option (Bool × Hp)
 | 0, _, _ => none
 | s + 1, p, H => (cp 3 aK H p 0).bind fun es => iter (g6 fuel Y (iA fuel Y s) p (IntKind.wrap .i64 ((es.length : Int) + 1))) fuel (0, H)
def ui (fuel : Nat) (Y : Entry → Hp → Option (Bool × Hp)) (p : Nat) (H : Hp) : Option (Bool × Hp) := iA fuel Y fuel p (H ++ [.hole])
def dnD (l i : Nat) : D := .fn (.func 70) [] [.ptr i 0, .aR [.fn (.yield l) [] []]]
def yd (l : Nat) : D := .aR [.fn (.yield l) [] []]
section
variable {fuel l i : Nat} {Y : Entry → Hp → Option (Bool × Hp)} {R : Loop} {jc : Code} {ds : List (Nat × D)}
def K7 := fun a0 a1 a2 (t : SL) => ((0, .d (.ptr a0 0)) :: (1, .d (.ptr a1 0)) :: (2, .d (yd a2)) :: (4, vB false) :: t : SL)
def K28 := fun a0 a1 a2 a3 a4 a5 (t : SL) => ((0, .d (.ptr a0 0)) :: (1, .d (.ptr a1 0)) :: (2, .d (yd a2)) :: (4, vB false) :: (5, vI a3) :: (12, vI a4) :: (13, vI a5) :: t : SL)
def K32 := fun a0 a1 a2 a3 a4 (t : SL) => ((0, .d (.ptr a0 0)) :: (1, .d (.ptr a1 0)) :: (2, .d (yd a2)) :: (4, vB false) :: (12, vI a3) :: (13, vI a4) :: (31, vB false) :: (40, vB true) :: t : SL)
theorem uh (hY : ∀ x H q, Y x H = some q → YBL Try.prog l (CL l R jc ds []) [.d (ab x)] H q.2 q.1) : ∀ (s p : Nat) (H : Hp) (q : Bool × Hp), iA fuel Y s p H = some q →
  SBL Try.prog l (CL l R jc ds [(i, dnD l i)]) 70 [.d (.ptr p 0), .d (.ptr i 0), .d (yd l)] H q.2 q.1 (fun v => v = .bool q.1) := by
 intro s
 have hC : ∀ b, CFr (CL l R jc ds [(i, dnD l i)] b) := fun b => CL.fr
 induction s with
 | zero => intro p H q h; cases h
 | succ s ih =>
  intro p H q h
  unfold iA at h
  obtain ⟨es0, hx0, hit⟩ := aa h
  refine SBL.Aq Try.func70 rfl rfl <| SWL.kp 55 H [0, 1, 2] (K26 p i [(2, .d (yd l))]) (by kernel_rfl) <| SWL.seq <| SWL.of hC <| SW.au <|
   OWk.G 1 (K7 p i l []) <| OWk.D <| dF <| SWL.seq <| SWL.seq <| SWL.of hC <| SW.au <|
   OWk.G 4 (K7 p i l [(9, .d (.ptr p 0))]) <|
   OWk.O (d := some 10) (s := .bf (.ai p 0) 3 (List.map aK.enc es0)) (K7 p i l [(10, .bf (.ai p 0) 3 (List.map aK.enc es0))]) (BAt.ldL (c := aK) hx0 (by kernel_rfl)) <|
   OWk.O (d := some 11) (K7 p i l [(11, vI (es0.length : Int))]) (BAt.len (enc := aK.enc) (xs := es0) (by kernel_rfl)) <|
   OWk.G 2 (K7 p i l [(12, vI (IntKind.wrap .i64 ((es0.length : Int) + 1))), (13, vI 0)]) <| OWk.D <| dF <| SWL.block ?_
  generalize IntKind.wrap .i64 ((es0.length : Int) + 1) = n at hit ⊢
  clear hx0 h
  refine SWL.itH 55 [0, 1, 2, 4, 12, 13] (fun x : Int × Hp => (K7 p i l [(12, vI n), (13, vI x.1)])) (fun x => x.2)
   (fun (r : Bool × Hp) b' e s => (r.1 = true ∧ b' = true ∧ e = .exit 0 ∧ s = sp 55 [] r.2) ∨ (r.1 = false ∧ b' = false ∧ e = .ret ∧ s.H = r.2 ∧ s.tmps[4]? = some (vB false))) hit (by kernel_rfl) (fun x o ho => ?_) (fun b' e s hh => ?_)
  ·obtain ⟨c, H⟩ := x
   unfold g6 at ho
   simp only at ho
   refine SWL.seq <| SWL.of hC <| SW.au <| OWk.G 1 (K7 p i l [(12, vI n), (13, vI c), (14, vB (decide (c < n)))]) <| OWk.D <| dF <| SWL.seq <| SWL.cond (v := decide (c < n)) (by kernel_rfl) ?_
   cases hd : decide (c < n) with
   | false =>
    rw [hd] at ho
    simp only [cond_false, Option.some.injEq] at ho
    refine SWL.kp 55 H [] [] (by kernel_rfl) <| SWL.of hC fun a w g hr => wp_exit ⟨_, g, ?_, hr, Fr.refl _ _ _⟩
    exact ⟨(true, H), ho.symm, .inl ⟨rfl, rfl, rfl, rfl⟩⟩
   | true =>
    rw [hd] at ho
    simp only [cond_true] at ho
    obtain ⟨lf, hlf, ho1⟩ := aa ho
    clear ho
    obtain ⟨q1, hq1, ho⟩ := aa ho1
    clear ho1
    refine SWL.kp 55 H [0, 1, 2, 4, 12, 13] (K7 p i l [(12, vI n), (13, vI c)]) (by kernel_rfl) <| SWL.of hC fun a w g hr => wp_skip ⟨_, g, ?_, hr, Fr.refl _ _ _⟩
    refine dF <| SWL.seq <| SWL.block <| SWL.seq <| SWL.of hC <| SW.au <| OWk.G 2 (K28 p i l c n c []) <| OWk.D <| dF <| SWL.seq <| SWL.l8 (by kernel_rfl) hC ?_
    -- what stands behind the region
    generalize hK : (fun b' s => vk (fun b' s => SWL Try.prog l (CL l R jc ds [(i, dnD l i)]) b' _ s _) _ b' Exit.normal s) = K
    have hgo : ∀ H', o = .inl (IntKind.wrap .i64 (c + 1), H') → K true (sp 55 (K7 p i l [(12, vI n), (13, vI c), (53, vB false)]) H') := fun H' e => by
     subst e
     rw [← hK]
     refine dF <| SWL.cond (v := false) (by kernel_rfl) <| SWL.of hC fun a w g hr => wp_skip ⟨_, g, ?_, hr, Fr.refl _ _ _⟩
     refine yk <| dF <| SWL.of hC <| SW.au <| OWk.G 2 (K7 p i l [(12, vI n), (13, vI (IntKind.wrap .i64 (c + 1)))]) <| OWk.D ?_
     exact ⟨rfl, _, rfl, by kernel_rfl⟩
    have hleave : ∀ H', o = .inr (false, H') → K false (sp 55 [(53, vB true)] H') := fun H' e => by
     subst e
     rw [← hK]
     refine dF <| SWL.cond (v := true) (by kernel_rfl) <| SWL.seq <| SWL.of hC <| SW.au <| OWk.G 1 [(4, vB false)] <| OWk.D <| dF <| SWL.of hC fun a w g hr => wp_ret ⟨_, g, ?_, hr, Fr.refl _ _ _⟩
     exact ⟨(false, H'), rfl, .inr ⟨rfl, rfl, rfl, rfl, by kernel_rfl⟩⟩
    clear hK
    -- the second half
    refine OL.cut (b := true) (fun H2 => ((cp 3 aK H2 p 0).bind fun es =>
      cond (decide (c < (es.length : Int)))
       ((idx es c).bind fun e => (Y e H2).bind fun y => cond y.1 (some (.inl (IntKind.wrap .i64 (c + 1), y.2))) (some (.inr (false, y.2))))
       (some (.inl (IntKind.wrap .i64 (c + 1), H2)))) = some o) 22 65535 55 (K28 p i l c n c [(31, vB false)]) (fun H2 h2 => ?_) fun part2 => ?_
    ·skip
     obtain ⟨es, hx, h2⟩ := aa h2
     refine OL.G (d' := 17) [16, 17, 18, 19, 20] (K28 p i l c n c [(31, vB false), (32, vI c), (36, .d (.ptr p 0))]) <| OL.F 21 hC <| OWk.O (d := some 37) (s := .bf (.ai p 0) 3 (List.map aK.enc es)) (K28 p i l c n c [(31, vB false), (32, vI c), (37, .bf (.ai p 0) 3 (List.map aK.enc es))]) (BAt.ldL (c := aK) hx (by kernel_rfl)) <| OWk.D <|
      OL.F 22 hC <| OWk.O (d := some 38) (K28 p i l c n c [(31, vB false), (32, vI c), (38, vI (es.length : Int))]) (BAt.len (enc := aK.enc) (xs := es) (by kernel_rfl)) <| OWk.D <| OL.G (d' := 13) [23, 24] (K28 p i l c n c [(31, vB false), (40, vB (decide (c < (es.length : Int))))]) ?_
     cases hd2 : decide (c < (es.length : Int)) with
     | false =>
      rw [hd2] at h2
      simp only [cond_false, Option.some.injEq] at h2
      exact OL.G (d' := 0) [25, 26, 27, 28, 29, 30, 31, 32, 33, 34, 35, 36, 37] (K7 p i l [(12, vI n), (13, vI c), (53, vB false)]) <| OL.fin (by kernel_rfl) (hgo H2 h2.symm)
     | true =>
      rw [hd2] at h2
      simp only [cond_true] at h2
      obtain ⟨e, he, h2⟩ := aa h2
      obtain ⟨y, hy, h2⟩ := aa h2
      refine OL.hav (b := true) (H := H2) 4 17179869183 55 (K32 p i l n c [(41, .d (.fn (.yield l) [] [])), (49, .d (ab e))]) ?_ fun hABC => ?_
      ·refine OL.step (i0 := 34) (is := []) (by kernel_rfl) ⟨cr.yield (dd := some 50) 55 [0, 1, 2, 4, 12, 13, 31, 40, 50] (K32 p i l n c [(50, vB y.1)]) (by kernel_rfl) (YBL.more (hY e H2 y hy)) (by kernel_rfl) (by kernel_rfl) ?_, trivial⟩
       cases hyb : y.1 with
       | true =>
        rw [hyb] at h2
        simp only [cond_true, Option.some.injEq] at h2
        exact OL.G (d' := 0) [35, 36, 37] (K7 p i l [(12, vI n), (13, vI c), (53, vB false)]) <| OL.fin (by kernel_rfl) (hgo y.2 h2.symm)
       | false =>
        rw [hyb] at h2
        simp only [cond_false, Option.some.injEq] at h2
        exact OL.G (d' := 0) [35, 36, 37] [(53, vB true)] <| OL.fin (by kernel_rfl) (hleave y.2 h2.symm)
      refine OL.hav (b := true) (H := H2) 5 8589934591 55 (K32 p i l n c [(41, .d (.fn (.yield l) [] [])), (48, .bO (.ai p 0) (ab e).cells)]) (OL.F 33 hC <| OWk.G 1 (K32 p i l n c [(41, .d (.fn (.yield l) [] [])), (49, .d (ab e))]) <| OWk.D <| OL.at_ hABC) fun hAB => ?_
      refine OL.G (d' := 8) [26, 27, 28, 29, 31] (K32 p i l n c [(45, .d (.ptr p 0)), (47, vI c)]) <| OL.step (i0 := 25) (is := [30]) (by kernel_rfl) ⟨cr.W (OWk.G 1 (K32 p i l n c [(41, .d (.fn (.yield l) [] [])), (45, .d (.ptr p 0)), (47, vI c)]) <| OWk.D ?_) hC, cr.W (OWk.O (d := some 46) (s := .bf (.ai p 0) 3 (List.map aK.enc es)) (K32 p i l n c [(46, .bf (.ai p 0) 3 (List.map aK.enc es)), (47, vI c)]) (BAt.ldL (c := aK) hx (by kernel_rfl)) <| OWk.D ?_) hC, trivial⟩
      ·refine OL.F 30 hC <| OWk.O (d := some 46) (s := .bf (.ai p 0) 3 (List.map aK.enc es)) (K32 p i l n c [(41, .d (.fn (.yield l) [] [])), (46, .bf (.ai p 0) 3 (List.map aK.enc es)), (47, vI c)]) (BAt.ldL (c := aK) hx (by kernel_rfl)) <| OWk.D <| OL.B (dd := some 48) (s := .bO (.ai p 0) (ab e).cells) 32 (K32 p i l n c [(41, .d (.fn (.yield l) [] [])), (48, .bO (.ai p 0) (ab e).cells)]) (BAt.index (enc := aK.enc) (l := some (.ai p 0)) (n := 3) he (by kernel_rfl)) <| OL.at_ hAB
      ·refine OL.B (dd := some 48) (s := .bO (.ai p 0) (ab e).cells) 32 (K32 p i l n c [(48, .bO (.ai p 0) (ab e).cells)]) (BAt.index (enc := aK.enc) (l := some (.ai p 0)) (n := 3) he (by kernel_rfl)) <| OL.step (i0 := 25) (is := [33]) (by kernel_rfl) ⟨cr.W (OWk.G 1 (K32 p i l n c [(41, .d (.fn (.yield l) [] [])), (48, .bO (.ai p 0) (ab e).cells)]) <| OWk.D <| OL.at_ hAB) hC, cr.W (OWk.G 1 (K32 p i l n c [(49, .d (ab e))]) <| OWk.D ?_) hC, trivial⟩
       exact OL.F 25 hC <| OWk.G 1 (K32 p i l n c [(41, .d (.fn (.yield l) [] [])), (49, .d (ab e))]) <| OWk.D <| OL.at_ hABC
    refine OL.G (d' := 37) [0] (K28 p i l c n c [(16, .d (.ptr p 0))]) <| OL.F 1 hC <| OWk.CR (ls := []) (some 17) (K28 p i l c n c [(17, vB lf)]) (fq hlf) <| OWk.D <| OL.G (d' := 34) [2, 3] (K28 p i l c n c [(19, vB (!lf))]) ?_
    cases lf with
    | true =>
     simp only [cond_true, Option.some.injEq] at hq1
     subst hq1
     simp only [cond_true] at ho
     exact OL.G (d' := 22) [4, 5, 6, 7, 8, 9, 10, 11, 12, 13, 14, 15] (K28 p i l c n c [(31, vB false)]) <| OL.at_ (part2 H ho)
    | false =>
     simp only [cond_false] at hq1
     obtain ⟨ks, hks, hq1⟩ := aa hq1
     obtain ⟨k0, hk, hq1⟩ := aa hq1
     obtain ⟨k, rfl, hq1⟩ := aa hq1
     refine OL.hav (b := true) (H := H) 26 4095 55 (K28 p i l c n c [(19, vB true), (20, .d (dnD l i)), (27, .d (.ptr k 0))]) ?_ fun hABC => ?_
     ·refine OL.step (i0 := 12) (is := []) (by kernel_rfl) ⟨cr.call (dd := some 28) 55 [0, 1, 2, 4, 5, 12, 13, 19, 28] (K28 p i l c n c [(19, vB true), (28, vB q1.1)]) (ih k H q1 hq1) (by kernel_rfl) (by kernel_rfl) (by kernel_rfl) ?_, trivial⟩
      cases hqb : q1.1 with
      | true =>
       rw [hqb] at ho
       simp only [cond_true] at ho
       exact OL.G (d' := 22) [13, 14, 15] (K28 p i l c n c [(31, vB false)]) <| OL.at_ (part2 q1.2 ho)
      | false =>
       rw [hqb] at ho
       simp only [cond_false, Option.some.injEq] at ho
       exact OL.G (d' := 0) [13, 14, 15, 16, 17, 18, 19, 20, 21, 22, 23, 24, 25, 26, 27, 28, 29, 30, 31, 32, 33, 34, 35, 36, 37] [(53, vB true)] <| OL.fin (by kernel_rfl) (hleave q1.2 ho.symm)
     refine OL.hav (b := true) (H := H) 27 2047 55 (K28 p i l c n c [(19, vB true), (20, .d (dnD l i)), (26, .bO (.ai p 1) [cP.enc (some k)])]) (OL.F 11 hC <| OWk.G 1 (K28 p i l c n c [(19, vB true), (20, .d (dnD l i)), (27, .d (.ptr k 0))]) <| OWk.D <| OL.at_ hABC) fun hAB => ?_
     refine OL.G (d' := 30) [5, 6, 7, 9] (K28 p i l c n c [(19, vB true), (23, .d (.ptr p 1)), (25, vI c)]) <| OL.step (i0 := 4) (is := [8]) (by kernel_rfl) ⟨cr.down (dd := some 20) (j := i) (y := dnD l i) (by kernel_rfl) (.head _) <| OL.kp 55 H [0, 1, 2, 4, 5, 12, 13, 19, 20, 23, 25] (K28 p i l c n c [(19, vB true), (20, .d (dnD l i)), (23, .d (.ptr p 1)), (25, vI c)]) (by kernel_rfl) ?_, cr.W (OWk.O (d := some 24) (s := .bf (.ai p 1) 1 (List.map cP.enc ks)) (K28 p i l c n c [(19, vB true), (24, .bf (.ai p 1) 1 (List.map cP.enc ks)), (25, vI c)]) (BAt.ldL (c := cP) hks (by kernel_rfl)) <| OWk.D ?_) hC, trivial⟩
     ·refine OL.F 8 hC <| OWk.O (d := some 24) (s := .bf (.ai p 1) 1 (List.map cP.enc ks)) (K28 p i l c n c [(19, vB true), (20, .d (dnD l i)), (24, .bf (.ai p 1) 1 (List.map cP.enc ks)), (25, vI c)]) (BAt.ldL (c := cP) hks (by kernel_rfl)) <| OWk.D <| OL.B (dd := some 26) (s := .bO (.ai p 1) [cP.enc (some k)]) 10 (K28 p i l c n c [(19, vB true), (20, .d (dnD l i)), (26, .bO (.ai p 1) [cP.enc (some k)])]) (BAt.pI (l := some (.ai p 1)) (n := 1) hk (by kernel_rfl)) <| OL.at_ hAB
     ·refine OL.B (dd := some 26) (s := .bO (.ai p 1) [cP.enc (some k)]) 10 (K28 p i l c n c [(19, vB true), (26, .bO (.ai p 1) [cP.enc (some k)])]) (BAt.pI (l := some (.ai p 1)) (n := 1) hk (by kernel_rfl)) <| OL.step (i0 := 4) (is := [11]) (by kernel_rfl) ⟨cr.down (dd := some 20) (j := i) (y := dnD l i) (by kernel_rfl) (.head _) <| OL.kp 55 H [0, 1, 2, 4, 5, 12, 13, 19, 20, 26] (K28 p i l c n c [(19, vB true), (20, .d (dnD l i)), (26, .bO (.ai p 1) [cP.enc (some k)])]) (by kernel_rfl) <| OL.at_ hAB, cr.W (OWk.G 1 (K28 p i l c n c [(19, vB true), (27, .d (.ptr k 0))]) <| OWk.D ?_) hC, trivial⟩
      exact OL.step (i0 := 4) (is := []) (by kernel_rfl) ⟨cr.down (dd := some 20) (j := i) (y := dnD l i) (by kernel_rfl) (.head _) <| OL.kp 55 H [0, 1, 2, 4, 5, 12, 13, 19, 20, 27] (K28 p i l c n c [(19, vB true), (20, .d (dnD l i)), (27, .d (.ptr k 0))]) (by kernel_rfl) <| OL.at_ hABC, trivial⟩
  ·rcases hh with ⟨h1, rfl, rfl, rfl⟩ | ⟨h1, rfl, rfl, h2, h3⟩
   ·refine yj <| dF <| SWL.seq <| SWL.of hC <| SW.au <| OWk.G 1 [(4, vB true)] <| OWk.D <| dF <| SWL.of hC fun a w g hr => wp_ret ⟨_, g, ?_, hr, Fr.refl _ _ _⟩
    exact ⟨h1.symm, .inr rfl, rfl, by rw [h1]; kernel_rfl⟩
   ·exact ⟨h1.symm, .inr rfl, h2, by rw [h1]; exact h3⟩
theorem qZ (H : Hp) (y z : D) : tg (H ++ [.cells [.d z]]) H.length 0 [y] = some (H ++ [.cells [.d y]]) := by
 have : fL (H ++ [ar.cells [SV.d z]]) H.length = some [SV.d z] := by simp [fL]
 simp [tg, this, setCells]
theorem wj (hY : ∀ x H q, Y x H = some q → YBL Try.prog l (CL l R jc ds []) [.d (ab x)] H q.2 q.1) {p : Nat} {H : Hp} {q : Bool × Hp} (h : ui fuel Y p H = some q) :
  SBL Try.prog l (CL l R jc ds []) 69 [.d (.fn (.yield l) [] []), .d (.aR [.ptr p 0])] H q.2 q.1 (fun _ => True) := by
 have hC : ∀ b, CFr (CL l R jc ds [] b) := fun b => CL.fr
 have hC2 : ∀ b, CFr (CL l R jc ds [(H.length, dnD l H.length)] b) := fun b => CL.fr
 refine SBL.ze Try.func69 rfl rfl <| SWL.kp 8 H [0, 1] [(0, .d (.fn (.yield l) [] [])), (1, .d (.aR [.ptr p 0]))] (by kernel_rfl) <| SWL.seq <| SWL.of hC <| SW.au <|
  OWk.bxf 8 H (d := 2) (ds := [.fn (.yield l) [] []]) [1, 2] [(1, .d (.aR [.ptr p 0])), (2, .d (yd l))] (by kernel_rfl) (by kernel_rfl) <| OWk.D <| dF <| SWL.seq <| SWL.of hC <| SW.au <|
  OWk.iQ (n := 8) (H := H ++ [.cells [.d .eZ]]) (d := some 3) (b := false) [] [1, 2, 3] [(1, .d (.aR [.ptr p 0])), (2, .d (yd l)), (3, .d (.ptr H.length 0))] (q := (H ++ [.cells [.d .eZ]], H.length)) rfl (by kernel_rfl) rfl (by kernel_rfl) <| OWk.D <| dF <| SWL.seq <| SWL.of hC <| SW.au <|
  OWk.G 1 [(1, .d (.aR [.ptr p 0])), (2, .d (yd l)), (3, .d (.ptr H.length 0)), (4, .d (dnD l H.length))] <|
  OWk.BE (n := 8) (H0 := H ++ [.cells [.d .eZ]]) (H := H ++ [.cells [.d (dnD l H.length)]]) (y := dnD l H.length) (i := H.length) (off := 0) [1, 3] [(1, .d (.aR [.ptr p 0])), (3, .d (.ptr H.length 0))] (qZ H _ _) (by kernel_rfl) (by kernel_rfl) <| OWk.D <| dF <|
  SWL.lL H.length (dnD l H.length) 8 (H ++ [.hole]) [1, 3] [(1, .d (.aR [.ptr p 0])), (3, .d (.ptr H.length 0))] (by simp [sp]) (by kernel_rfl) ?_ <| SWL.fD <|
  OLt.step (by kernel_rfl) <| cr.down (dd := some 5) (j := H.length) (y := dnD l H.length) (by kernel_rfl) (.head _) <| OLt.kp 8 (H ++ [.hole]) [1, 5] [(1, .d (.aR [.ptr p 0])), (5, .d (dnD l H.length))] (by kernel_rfl) <|
  OLt.step (by kernel_rfl) <| cr.W (OWk.G 1 [(5, .d (dnD l H.length)), (6, .d (.ptr p 0))] <| OWk.D ?_) hC2
 ·have e : (H ++ [ar.cells [SV.d (dnD l H.length)]]).set H.length .hole = H ++ [.hole] := by simp
  show aV 8 [1, 3] ⟨_, (H ++ [ar.cells [SV.d (dnD l H.length)]]).set H.length .hole⟩ = _
  rw [e]
  kernel_rfl
 ·refine OLt.step (by kernel_rfl) <| cr.call (dd := some 7) 8 [7] [(7, vB q.1)] (uh hY fuel p _ q h) (by kernel_rfl) (by kernel_rfl) (by kernel_rfl) <| OLt.fin (by kernel_rfl) ⟨rfl, .inl rfl, rfl⟩
def ft (fuel : Nat) (Y : Entry → Hp → Option Hp) (p : Option Nat) (H : Hp) : Option Hp := p.bind fun p => (ui fuel (fun e H => (Y e H).map (Prod.mk true)) p H).bind fun q => cond q.1 (some q.2) none
theorem nZ {fuel : Nat} {Y : Entry → Hp → Option Hp} {p : Option Nat} {H r : Hp} {l : Nat} {R : Loop} {ds : List (Nat × D)} (hC : CFr (kJ l R ds)) (hY : ∀ x H H', Y x H = some H' → YB Try.prog (kJ l R ds) l [.d (ab x)] H H') (h : ft fuel Y p H = some r) :
  SBC Try.prog (kJ l R ds) 69 (.d (.fn (.yield l) [] []) :: [.d (.aR [cP.enc p])]) H r := by
 unfold ft at h
 obtain ⟨p, rfl, h1⟩ := aa h
 obtain ⟨⟨b, H'⟩, hq, h2⟩ := aa h1
 cases b with
 | false => cases h2
 | true =>
  cases h2
  refine SBC.As (jc := .skip) (wj (fun x H q hq => ?_) hq)
  simp only [Option.map_eq_some_iff] at hq
  obtain ⟨H2, h2, rfl⟩ := hq
  exact YBL.Bv (hY x H H2 h2)
end
def oX (fuel : Nat) (p0 : Entry) : Option (Entry) :=
 (cG fuel p0.Row).bind fun r1 =>
 some (⟨r1, p0.Key, p0.Number⟩ : Entry)
def Cg (x0 : (List Value)) (x1 : Entry) : SV := .box [.d (.list 3 (List.map ag x0)), vI x1.Key, vI x1.Number]
theorem eA {fuel : Nat} {p0 : Entry} {r : Entry} (h : oX fuel p0 = some r) : PC Try.prog 55 [.d (ab p0)] (.d (.agg [.list 3 (List.map ag r.Row), .int .i64 r.Key, .int .i64 r.Number])) := by
 refine PC.br Try.func55 rfl fun H => ?_
 unfold oX at h
 refine SW.kp 8 H [0] [(0, Z77 p0)] (by kernel_rfl) <| SW.R 1 [(1, Z76 p0), (2, oA)] <| SW.S <| OWk.G 2 [(1, Z76 p0), (2, oA), (4, Z84 p0)] ?_
 obtain ⟨r1, hr, h⟩ := aa h
 refine OWk.C0 (some 5) [(1, Z76 p0), (2, oA), (5, .own 3 (List.map ag r1))] (cA hr) <| OWk.G 1 [(1, Z76 p0), (2, oA), (5, Z74 r1), (6, .loc 1 0)] <| OWk.fz 8 H 5 [1, 2, 5, 6] [(1, Z76 p0), (2, oA), (5, Z13 r1), (6, .loc 1 0)] (by kernel_rfl) <| OWk.G 1 [(1, Cg r1 p0), (2, oA)] <| OWk.E <| SW.R 1 [(2, Cg r1 p0)] <| SW.ret ?_
 cases h
 exact aA.ret [] (by kernel_rfl) rfl
def bS (fuel : Nat) (q1 : (Hp × Nat)) (e5 : Entry) (G6 : Hp) : Option Hp :=
 (eF 3 aK G6 q1.2 0).bind fun q7 =>
 (oX fuel e5).bind fun r8 =>
 chk (decide ((q7.1 ++ [r8]).length ≤ room)) <|
 (dB 3 aK q7.2 q1.2 0 (q7.1 ++ [r8])).bind fun H10 =>
 some H10
def fU (fuel : Nat) (p0 : Nat) (H : Hp) : Option (((List Entry)) × Hp) :=
 (mw H (.cells [.own 3 (List.map ab ([] : List Entry))])).bind fun q1 =>
 (bg cP.cell q1.1 p0 4).bind fun x2 =>
 x2.bind fun i3 =>
 (lu fuel i3 q1.1).bind fun r4 =>
 (ft fuel (bS fuel q1) (some i3) q1.1).bind fun H11 =>
 (eF 3 aK H11 q1.2 0).bind fun q12 =>
 some (q12.1, q12.2)
def qp (x0 : ((List Entry) × Hp)) (x1 : Entry) : SV := .own 3 (List.map ab (x0.1 ++ [x1]))
def K77 := fun a0 a1 (t : SL) => ((3, .d (.ptr a0 0)) :: (13, iy a1) :: t : SL)
theorem iN {fuel : Nat} {p0 : Nat} {H : Hp} {r : ((List Entry)) × Hp} (h : fU fuel p0 H = some r) : SC Try.prog false 37 [.d (.ptr p0 0)] H (.own 3 (List.map ab r.1)) r.2 := by
 refine SC.oE Try.func37 rfl ?_
 unfold fU at h
 refine dJ.kp 19 H [0] [(0, .d (.ptr p0 0))] (by kernel_rfl) <| dJ.seq1 <| SW.au <| OWk.G 1 [(0, .d (.ptr p0 0))] <| OWk.E <| dJ.seq1 <| SW.au <| OWk.G 1 [(0, .d (.ptr p0 0)), (3, .box [.d (.bW)])] <| OWk.E ?_
 obtain ⟨q1, hq, h⟩ := aa h
 refine dJ.xl hq 3 19 [(0, 3)] [0, 3] [(0, .d (.ptr p0 0)), (3, .d (.ptr q1.2 0))] (by kernel_rfl) (by cases hq; kernel_rfl) <| dJ.Cy <| dJ.seq1 <| SW.au <| OWk.G 2 [(0, .d (.ptr p0 0)), (3, .d (.ptr q1.2 0)), (6, vB true)] <| OWk.E <| dJ.gH (by kernel_rfl) <| dJ.seq1 <| SW.au <| OWk.G 3 [(3, .d (.ptr q1.2 0)), (9, .d (.ptr p0 4))] ?_
 obtain ⟨x2, hx, h⟩ := aa h
 refine OWk.O (d := some 10) (s := .d (cP.enc x2)) [(3, .d (.ptr q1.2 0)), (10, .d (cP.enc x2))] (BAt.ldH (c := cP.cell) hx (by kernel_rfl)) ?_
 obtain ⟨i3, hp_i3, h⟩ := aa h
 refine OWk.asP x2 (fun p => (sp 19 [(3, .d (.ptr q1.2 0)), (10, .d (cP.enc p))] q1.1)) (by kernel_rfl) hp_i3 ?_
 obtain ⟨r4, hr, h⟩ := aa h
 refine OWk.CR (ls := []) (some 11) [(3, .d (.ptr q1.2 0)), (11, Ch i3)] (qf hr) <| OWk.E <| dJ.block ?_
 obtain ⟨H11, hit, h⟩ := aa h
 refine dJ.Am (f := 69) (caps := [.aR [.ptr i3 0]]) (H' := H11) [(3, .ptr q1.2 0)] (by kernel_rfl) (by kernel_rfl) (by kernel_rfl) (by kernel_rfl) (fun l R hst hpe hps has hbd hsz => ?_) ?_
 ·refine nZ kJ.fr (fun e5 G6 H9 h => ?_) hit
  unfold bS at h
  refine YB.wy (n := 19) hst hpe hps (hsz.trans (kP _ _ _)) [(3, .d (.ptr q1.2 0)), (12, .d (.agg [.list 3 (List.map ag e5.Row), .int .i64 e5.Key, .int .i64 e5.Number]))] (tU ⟨.inr ⟨by decide, _, rfl, .head _⟩, ⟨.inl ⟨rfl, rfl⟩, trivial⟩⟩) ?_
  rw [has, hbd]
  refine SWR.region (by kernel_rfl) <| OWk.G 2 [(3, .d (.ptr q1.2 0)), (4, Z76 e5)] <| OWk.D <| SWR.block ?_
  obtain ⟨q7, hq_0, h⟩ := aa h
  obtain ⟨r8, hr_2, h⟩ := aa h
  obtain ⟨hk9, h⟩ := bH h
  obtain ⟨H10, hx_5, h⟩ := aa h
  refine SWR.kp 19 G6 [3, 4] [(3, .d (.ptr q1.2 0)), (4, Z76 e5)] (by kernel_rfl) ?_
  refine SWR.y8 19 H10 [] (by kernel_rfl) (fun X hX => ?_) ?_
  ·have c63 : X 0 63 (sp 19 [] H10) := by subst hX; exact OX.fin (by kernel_rfl)
   have c31 : X 1 31 (sp 19 [(3, .d (.ptr q1.2 0)), (17, qp q7 r8)] q7.2) := by
    subst hX
    refine OX.step (i0 := 5) (is := []) (by kernel_rfl) (by kernel_rfl) ⟨?_, trivial⟩
    ·refine OWk.gvH (c := aK) (n' := 3) (s := 17) (xs := (q7.1 ++ [r8])) 19 [] [] hx_5 (by kernel_rfl) (by kernel_rfl) <| OWk.D ?_
     exact c63
   have c15 : X 2 15 (sp 19 (K77 q1.2 q7 [(16, gI r8)]) q7.2) := by
    subst hX
    refine OX.step (i0 := 4) (is := []) (by kernel_rfl) (by kernel_rfl) ⟨?_, trivial⟩
    ·refine OWk.app 19 q7.2 (s := 13) (d := 17) (w := 3) [3, 17] (zs := List.map ab (q7.1 ++ [r8])) [(3, .d (.ptr q1.2 0)), (17, qp q7 r8)] (ys := (List.map ab [r8])) (by kernel_rfl) (aY) (bY hk9) (by kernel_rfl) <| OWk.D ?_
     exact c31
   have c7 : X 3 7 (sp 19 (K77 q1.2 q7 [(15, Z77 r8)]) q7.2) := by
    subst hX
    refine OX.step (i0 := 3) (is := []) (by kernel_rfl) (by kernel_rfl) ⟨?_, trivial⟩
    ·refine OWk.sg 19 q7.2 [13] [3, 13, 16] 1 (K77 q1.2 q7 [(16, gI r8)]) (by kernel_rfl) <| OWk.D ?_
     exact c15
   have c3 : X 4 3 (sp 19 (K77 q1.2 q7 [(14, Z77 e5)]) q7.2) := by
    subst hX
    refine OX.step (i0 := 2) (is := []) (by kernel_rfl) (by kernel_rfl) ⟨?_, trivial⟩
    ·refine OWk.C0 (some 15) (K77 q1.2 q7 [(15, .d (.agg [.list 3 (List.map ag r8.Row), .int .i64 r8.Key, .int .i64 r8.Number]))]) (eA hr_2) <| OWk.D ?_
     exact c7
   have c1 : X 5 1 (sp 19 [(3, .d (.ptr q1.2 0)), (4, Z76 e5), (13, iy q7)] q7.2) := by
    subst hX
    refine OX.step (i0 := 1) (is := []) (by kernel_rfl) (by kernel_rfl) ⟨?_, trivial⟩
    ·refine OWk.sg 19 q7.2 [13] [3, 13, 14] 1 (K77 q1.2 q7 [(14, Z77 e5)]) (by kernel_rfl) <| OWk.D ?_
     exact c3
   have c14 : X 3 14 (sp 19 [(3, .d (.ptr q1.2 0)), (16, gI r8)] G6) := by
    subst hX
    refine OX.step (i0 := 0) (is := []) (by kernel_rfl) (by kernel_rfl) ⟨?_, trivial⟩
    ·refine OWk.tkH (c := aK) (n' := 3) (d := 13) (xs := q7.1) 19 [3, 13, 16] (K77 q1.2 q7 [(16, gI r8)]) hq_0 (by kernel_rfl) (by kernel_rfl) <| OWk.D ?_
     exact c15
   have c6 : X 4 6 (sp 19 [(3, .d (.ptr q1.2 0)), (15, Z77 r8)] G6) := by
    subst hX
    refine OX.step (i0 := 0) (is := [3]) (by kernel_rfl) (by kernel_rfl) ⟨?_, ?_, trivial⟩
    ·refine OWk.tkH (c := aK) (n' := 3) (d := 13) (xs := q7.1) 19 [3, 13, 15] (K77 q1.2 q7 [(15, Z77 r8)]) hq_0 (by kernel_rfl) (by kernel_rfl) <| OWk.D ?_
     exact c7
    ·refine OWk.sg 19 G6 [13] [3, 16] 1 [(3, .d (.ptr q1.2 0)), (16, gI r8)] (by kernel_rfl) <| OWk.D ?_
     exact c14
   have c2 : X 5 2 (sp 19 [(3, .d (.ptr q1.2 0)), (14, Z77 e5)] G6) := by
    subst hX
    refine OX.step (i0 := 0) (is := [2]) (by kernel_rfl) (by kernel_rfl) ⟨?_, ?_, trivial⟩
    ·refine OWk.tkH (c := aK) (n' := 3) (d := 13) (xs := q7.1) 19 [3, 13, 14] (K77 q1.2 q7 [(14, Z77 e5)]) hq_0 (by kernel_rfl) (by kernel_rfl) <| OWk.D ?_
     exact c3
    ·refine OWk.C0 (some 15) [(3, .d (.ptr q1.2 0)), (15, Z77 r8)] (eA hr_2) <| OWk.D ?_
     exact c6
   have c0 : X 6 0 (sp 19 [(3, .d (.ptr q1.2 0)), (4, Z76 e5)] G6) := by
    subst hX
    refine OX.step (i0 := 0) (is := [1]) (by kernel_rfl) (by kernel_rfl) ⟨?_, ?_, trivial⟩
    ·refine OWk.tkH (c := aK) (n' := 3) (d := 13) (xs := q7.1) 19 [3, 4, 13] [(3, .d (.ptr q1.2 0)), (4, Z76 e5), (13, .own 3 (List.map ab q7.1))] hq_0 (by kernel_rfl) (by kernel_rfl) <| OWk.D ?_
     exact c1
    ·refine OWk.sg 19 G6 [13] [3, 14] 1 [(3, .d (.ptr q1.2 0)), (14, Z77 e5)] (by kernel_rfl) <| OWk.D ?_
     exact c2
   exact c0
  cases h
  exact rfl
 refine aH <| ad ?_
 intro ds
 refine SWd.seq <| SWd.region <| OTk.M 2 ?_
 obtain ⟨q12, hq, h⟩ := aa h
 refine OWk.tkH (c := aK) (n' := 3) (d := 18) (xs := q12.1) 19 [18] [(18, .own 3 (List.map ab q12.1))] hq (by kernel_rfl) (by kernel_rfl) <| OWk.G 1 [(2, iy q12)] <| OWk.D <| OTk.D <| ad <| SWd.ret ?_
 cases h
 exact aA.ret [] (by kernel_rfl) rfl
def dM (fuel : Nat) (r1 : (((List Entry)) × Hp)) (y2 : (List Int) × Int × Hp) : Option (((List Int) × Int × Hp) ⊕ ((List Int) × Hp)) :=
 bif (decide (y2.2.1 < (r1.1.length : Int))) then
  (idx r1.1 y2.2.1).bind fun x3 =>
  chk (decide ((y2.1 ++ [x3.Key]).length ≤ room)) <|
  some (.inl ((y2.1 ++ [x3.Key]), (IntKind.wrap .i64 (y2.2.1 + 1)), y2.2.2))
 else
  some (.inr (y2.1, y2.2.2))
def eX (fuel : Nat) (p0 : Nat) (H : Hp) : Option (((List Int)) × Hp) :=
 (fU fuel p0 H).bind fun r1 =>
 (iter (dM fuel r1) fuel (([] : List Int), 0, r1.2)).bind fun v5 =>
 some (v5.1, v5.2)
def oz (x0 : (((List Entry)) × Hp)) : SV := .own 3 (List.map ab x0.1)
def Cf (x0 : Entry) : SV := .own 1 (List.map (D.int .i64) [x0.Key])
def yE (x0 : (List Int) × Int × Hp) : SV := .own 1 (List.map (D.int .i64) x0.1)
def D9 (x0 : (List Int) × Int × Hp) (x1 : (((List Entry)) × Hp)) : SV := vB (decide (x0.2.1 < (x1.1.length : Int)))
def A3 (x0 : (List Int) × Int × Hp) (x1 : Entry) : SV := .own 1 (List.map (D.int .i64) (x0.1 ++ [x1.Key]))
def D8 (x0 : (List Int) × Int × Hp) : SV := vI (IntKind.wrap .i64 (x0.2.1 + 1))
def D7 (x0 : (List Int) × Hp) : SV := .own 1 (List.map (D.int .i64) x0.1)
theorem hD {fuel : Nat} {p0 : Nat} {H : Hp} {r : ((List Int)) × Hp} (h : eX fuel p0 H = some r) : SC Try.prog false 19 [.d (.ptr p0 0)] H (.own 1 (List.map (D.int .i64) r.1)) r.2 := by
 refine SC.ga Try.func19 rfl ?_
 unfold eX at h
 refine SW.kp 20 H [0] [(0, .d (.ptr p0 0))] (by kernel_rfl) <| SW.R 2 [(0, .d (.ptr p0 0)), (3, Z39)] <| SW.seq <| SW.S <| OWk.G 1 [(3, Z39), (6, .d (.ptr p0 0))] ?_
 obtain ⟨r1, hr, h⟩ := aa h
 refine OWk.CH (some 7) [(3, Z39), (7, .own 3 (List.map ab r1.1))] (iN hr) <| OWk.O (d := some 8) [(3, Z39), (7, oz r1), (8, vI (r1.1.length : Int))] (BAt.len (enc := ab) (xs := r1.1) (by kernel_rfl)) <| OWk.G 1 [(3, Z39), (7, oz r1), (8, vI (r1.1.length : Int)), (9, vI 0)] <| OWk.E <| SW.block ?_
 obtain ⟨v5, hit, h⟩ := aa h
 refine SW.itH 20 [3, 7, 8, 9] (fun y2 => [(3, .own 1 (List.map (D.int .i64) y2.1)), (7, oz r1), (8, vI (r1.1.length : Int)), (9, vI y2.2.1)]) (fun y2 => y2.2.2) (fun v5 e s => (e = .exit 0 ∧ s = (sp 20 [(3, .own 1 (List.map (D.int .i64) v5.1))] v5.2))) hit (by kernel_rfl) (fun y2 o h => ?_) ?_
 ·unfold dM at h
  refine SW.R 1 [(3, yE y2), (7, oz r1), (8, vI (r1.1.length : Int)), (9, vI y2.2.1), (10, D9 y2 r1)] <| SW.seq ?_
  refine SW.B (decide (y2.2.1 < (r1.1.length : Int))) (fun hc => ?_) (fun hc => ?_)
  ·replace h := an hc h
   refine SW.skip <| ad <| SW.seq <| SW.block <| SW.S ?_
   obtain ⟨x3, hx, h⟩ := aa h
   refine OWk.O (d := some 11) (s := aO (some (.slot 7)) (Go.Sh.D.cells (ab x3))) [(3, yE y2), (7, oz r1), (8, vI (r1.1.length : Int)), (9, vI y2.2.1), (11, .bO (.slot 7) [.list 3 (List.map ag x3.Row), .int .i64 x3.Key, .int .i64 x3.Number])] (BAt.index (n := 3) hx (by kernel_rfl)) <| OWk.G 3 [(3, yE y2), (5, Z76 x3), (7, oz r1), (8, vI (r1.1.length : Int)), (9, vI y2.2.1)] <| OWk.E <| SW.au <| OWk.sg 20 y2.2.2 [13] [7, 8, 9, 13, 16] 4 [(7, oz r1), (8, vI (r1.1.length : Int)), (9, vI y2.2.1), (13, yE y2), (16, Cf x3)] (by kernel_rfl) ?_
   obtain ⟨hk, h⟩ := bH h
   refine OWk.app 20 y2.2.2 (s := 13) (d := 17) (w := 1) [7, 8, 9, 17] (zs := List.map (D.int .i64) (y2.1 ++ [x3.Key])) [(7, oz r1), (8, vI (r1.1.length : Int)), (9, vI y2.2.1), (17, A3 y2 x3)] (ys := (List.map (D.int .i64) [x3.Key])) (by kernel_rfl) (aY) (bY hk) (by kernel_rfl) <| OWk.sg 20 y2.2.2 [13] [3, 7, 8, 9] 1 [(3, A3 y2 x3), (7, oz r1), (8, vI (r1.1.length : Int)), (9, vI y2.2.1)] (by kernel_rfl) <| OWk.D <| aH <| ad <| SW.au <| OWk.G 2 [(3, A3 y2 x3), (7, oz r1), (8, vI (r1.1.length : Int)), (9, D8 y2)] <| OWk.D ?_
   cases h
   exact ⟨((y2.1 ++ [x3.Key]), (IntKind.wrap .i64 (y2.2.1 + 1)), y2.2.2), rfl, by kernel_rfl⟩
  ·replace h := ao hc h
   refine SW.K [(3, yE y2)] <| SW.exit <| aJ ?_
   cases h
   refine aJ ?_
   exact ⟨_, rfl, ⟨rfl, rfl⟩⟩
 ·rintro _ _ ⟨rfl, rfl⟩
  refine aT <| ad <| SW.S <| OWk.sg 20 v5.2 [19] [2] 2 [(2, D7 v5)] (by kernel_rfl) <| OWk.E <| SW.ret ?_
  cases h
  exact aA.ret [] (by kernel_rfl) rfl
def pB (fuel : Nat) (r1 : (((Option Nat) × Int) × Hp)) (y2 : Int × Hp) : Option ((Int × Hp) ⊕ ((Hp) ⊕ ((Bool)))) :=
 bif (decide (y2.1 < 3)) then
  (idx [5, 5, 3] y2.1).bind fun x3 =>
  r1.1.1.bind fun i4 =>
  (iM fuel i4 [(⟨1, x3, []⟩ : Value)] (IntKind.wrap .i64 (y2.1 + 1)) y2.2).bind fun r5 =>
  bif (r5.1.2 != 0) then
   some (.inr (.inr false))
  else
   some (.inl ((IntKind.wrap .i64 (y2.1 + 1)), r5.2))
 else
  some (.inr (.inl y2.2))
def gX (fuel : Nat) : Option (Bool) :=
 (qD fuel (⟨[1], [false], 2⟩ : ah) 4 []).bind fun r1 =>
 bif (r1.1.2 != 0) then
  some false
 else
  (iter (pB fuel r1) fuel (0, r1.2)).bind (Sum.elim (fun v7 =>
   r1.1.1.bind fun i8 =>
   (eX fuel i8 v7).bind fun r9 =>
   bif ((r9.1.length : Int) == 3) then
    (idx r9.1 0).bind fun x10 =>
    bif (x10 == 3) then
     (idx r9.1 1).bind fun x11 =>
     bif (x11 == 2) then
      (idx r9.1 2).bind fun x12 =>
      some (x12 == 1)
     else
      some false
    else
     some false
   else
    some false) (fun r13 =>
   some r13))
def kG (x0 : (((List Int)) × Hp)) : SV := .own 1 (List.map (D.int .i64) x0.1)
def A2 (x0 : (((List Int)) × Hp)) : SV := .bf (.slot 6) 1 (List.map (D.int .i64) x0.1)
def D6 (x0 : (((List Int)) × Hp)) : SV := vB ((x0.1.length : Int) == 3)
def K79 := fun a0 a1 a2 (t : SL) => ((1, .d (cP.enc a0)) :: (3, vI a1) :: (21, .d (cP.enc a2)) :: t : SL)
theorem jx {fuel : Nat} {r : Bool} (h : gX fuel = some r) : PC Try.prog 7 [] (vB r) := by
 refine PC.ju Try.func7 rfl (by simp [cU, cC, cD, vI, vB, vS]) (by simp [cU, cC, cD, vI, vB, vS]) ?_
 unfold gX at h
 refine SW.kp 58 [] [] [] (by kernel_rfl) <| SW.R 1 [] <| SW.S <| OWk.G 2 [(8, Z20), (9, Z21)] <| OWk.fz 58 [] 8 [8, 9] [(8, Z52), (9, Z21)] (by kernel_rfl) <| OWk.fz 58 [] 9 [8, 9] [(8, Z52), (9, Z53)] (by kernel_rfl) <| OWk.G 1 [(10, Z22)] ?_
 obtain ⟨r1, hr, h⟩ := aa h
 refine OWk.CH (some 11) [(11, .tup [.d (cP.enc r1.1.1), vI r1.1.2])] (sC hr) <| OWk.G 5 [(1, .d (cP.enc r1.1.1)), (2, vI r1.1.2)] <| OWk.E <| SW.seq <| SW.R 1 [(1, .d (cP.enc r1.1.1)), (15, vB (r1.1.2 != 0))] ?_
 refine SW.B (r1.1.2 != 0) (fun hc => ?_) (fun hc => ?_)
 ·replace h := an hc h
  refine SW.R 1 [(0, vB false)] <| SW.ret <| af ?_
  cases h
  exact gh.ret [] (by kernel_rfl)
 ·replace h := ao hc h
  refine SW.skip <| ad <| SW.seq <| SW.R 1 [(1, .d (cP.enc r1.1.1)), (3, vI 0)] <| SW.block ?_
  obtain ⟨z6, hit, h⟩ := aa h
  refine SW.itH 58 [1, 3] (fun y2 => [(1, .d (cP.enc r1.1.1)), (3, vI y2.1)]) (fun y2 => y2.2) (fun b e s => ((∃ v7, b = (.inl v7) ∧ (e = .exit 0 ∧ s = (sp 58 [(1, .d (cP.enc r1.1.1))] v7))) ∨ (∃ r13, b = (.inr r13) ∧ (e = .ret ∧ gh Try.prog Try.f7.results.toList (vB r13) .ret s)))) hit (by kernel_rfl) (fun y2 o h => ?_) ?_
  ·unfold pB at h
   refine SW.seq <| SW.R 1 [(1, .d (cP.enc r1.1.1)), (3, vI y2.1), (17, vB (decide (y2.1 < 3)))] ?_
   refine SW.B (decide (y2.1 < 3)) (fun hc => ?_) (fun hc => ?_)
   ·replace h := an hc h
    refine SW.skip <| ad <| SW.seq <| SW.block <| SW.S <| OWk.G 3 (K79 r1.1.1 y2.1 r1.1.1 [(22, Z54), (23, vI y2.1)]) ?_
    obtain ⟨x3, hx, h⟩ := aa h
    refine OWk.O (d := some 24) (s := aO (some (.slot 22)) (Go.Sh.D.cells ((D.int .i64) x3))) (K79 r1.1.1 y2.1 r1.1.1 [(24, .bO (.slot 22) [.int .i64 x3])]) (BAt.index (n := 1) hx (by kernel_rfl)) <| OWk.G 3 (K79 r1.1.1 y2.1 r1.1.1 [(27, Z55 x3)]) <| OWk.fz 58 y2.2 27 [1, 3, 21, 27] (K79 r1.1.1 y2.1 r1.1.1 [(27, A4 x3)]) (by kernel_rfl) <| OWk.G 2 (K79 r1.1.1 y2.1 r1.1.1 [(27, A4 x3), (29, wV y2)]) ?_
    obtain ⟨i4, hp_i4, h⟩ := aa h
    refine OWk.asP r1.1.1 (fun p => (sp 58 (K79 p y2.1 p [(27, A4 x3), (29, wV y2)]) y2.2)) (by kernel_rfl) hp_i4 ?_
    obtain ⟨r5, hr, h⟩ := aa h
    refine OWk.CH (some 30) [(1, .d (.ptr i4 0)), (3, vI y2.1), (30, .tup [vI r5.1.1, vI r5.1.2])] (mV hr) <| OWk.G 5 [(1, .d (.ptr i4 0)), (3, vI y2.1), (5, vI r5.1.2)] <| OWk.E <| SW.R 1 [(1, .d (.ptr i4 0)), (3, vI y2.1), (34, vB (r5.1.2 != 0))] ?_
    refine SW.B (r5.1.2 != 0) (fun hc => ?_) (fun hc => ?_)
    ·replace h := an hc h
     refine SW.R 1 [(0, vB false)] <| SW.ret <| ax <| af ?_
     cases h
     refine af ?_
     exact ⟨_, rfl, .inr (⟨false, rfl, rfl, gh.ret [] (by kernel_rfl)⟩)⟩
    ·replace h := ao hc h
     refine SW.skip <| aH <| ad <| SW.au <| OWk.G 3 [(1, .d (.ptr i4 0)), (3, wV y2)] <| OWk.D ?_
     cases h
     exact ⟨((IntKind.wrap .i64 (y2.1 + 1)), r5.2), rfl, by rw [hp_i4]; kernel_rfl⟩
   ·replace h := ao hc h
    refine SW.K [(1, .d (cP.enc r1.1.1))] <| SW.exit <| aJ ?_
    cases h
    refine aJ ?_
    exact ⟨_, rfl, .inl ⟨y2.2, rfl, rfl, rfl⟩⟩
  ·rintro _ _ (⟨v7, rfl, rfl, rfl⟩ | ⟨r13, rfl, rfl, hE⟩)
   ·replace h := dO h
    refine aT <| ad <| SW.S <| OWk.G 1 [(35, .d (cP.enc r1.1.1))] ?_
    obtain ⟨i8, hp_i8, h⟩ := aa h
    refine OWk.asP r1.1.1 (fun p => (sp 58 [(35, .d (cP.enc p))] v7)) (by kernel_rfl) hp_i8 ?_
    obtain ⟨r9, hr, h⟩ := aa h
    refine OWk.CH (some 36) [(36, .own 1 (List.map (D.int .i64) r9.1))] (hD hr) <| OWk.G 1 [(6, kG r9)] <| OWk.E <| SW.S <| OWk.G 1 [(6, kG r9), (37, A2 r9)] <| OWk.O (d := some 38) [(6, kG r9), (38, vI (r9.1.length : Int))] (BAt.len (enc := (D.int .i64)) (xs := r9.1) (by kernel_rfl)) <| OWk.G 2 [(6, kG r9), (40, D6 r9)] ?_
    refine OWk.case ((r9.1.length : Int) == 3) (fun b => (sp 58 [(6, kG r9), (40, vB b)] r9.2)) (by kernel_rfl) (fun hc => ?_) (fun hc => ?_)
    ·replace h := an hc h
     refine OWk.G 1 [(6, kG r9), (40, vB true), (41, A2 r9)] ?_
     obtain ⟨x10, hx, h⟩ := aa h
     refine OWk.O (d := some 42) (s := aO (some (.slot 6)) (Go.Sh.D.cells ((D.int .i64) x10))) [(6, kG r9), (40, vB true), (42, .bO (.slot 6) [.int .i64 x10])] (BAt.index (n := 1) hx (by kernel_rfl)) <| OWk.G 4 [(6, kG r9), (46, vB (x10 == 3))] ?_
     refine OWk.case (x10 == 3) (fun b => (sp 58 [(6, kG r9), (46, vB b)] r9.2)) (by kernel_rfl) (fun hc => ?_) (fun hc => ?_)
     ·replace h := an hc h
      refine OWk.G 1 [(6, kG r9), (46, vB true), (47, A2 r9)] ?_
      obtain ⟨x11, hx, h⟩ := aa h
      refine OWk.O (d := some 48) (s := aO (some (.slot 6)) (Go.Sh.D.cells ((D.int .i64) x11))) [(6, kG r9), (46, vB true), (48, .bO (.slot 6) [.int .i64 x11])] (BAt.index (n := 1) hx (by kernel_rfl)) <| OWk.G 4 [(6, kG r9), (52, vB (x11 == 2))] ?_
      refine OWk.case (x11 == 2) (fun b => (sp 58 [(6, kG r9), (52, vB b)] r9.2)) (by kernel_rfl) (fun hc => ?_) (fun hc => ?_)
      ·replace h := an hc h
       refine OWk.sg 58 r9.2 [53] [52, 53] 1 [(52, vB true), (53, kG r9)] (by kernel_rfl) ?_
       obtain ⟨x12, hx, h⟩ := aa h
       refine OWk.O (d := some 54) (s := aO (some (.slot 53)) (Go.Sh.D.cells ((D.int .i64) x12))) [(52, vB true), (54, .bO (.slot 53) [.int .i64 x12])] (BAt.index (n := 1) hx (by kernel_rfl)) <| OWk.sg 58 r9.2 [53] [0] 4 [(0, vB (x12 == 1))] (by kernel_rfl) <| OWk.E <| SW.ret ?_
       cases h
       exact gh.ret [] (by kernel_rfl)
      ·replace h := ao hc h
       refine OWk.sg 58 r9.2 [53] [0] 6 [(0, vB false)] (by kernel_rfl) <| OWk.E <| SW.ret ?_
       cases h
       exact gh.ret [] (by kernel_rfl)
     ·replace h := ao hc h
      refine OWk.sg 58 r9.2 [53] [0] 12 [(0, vB false)] (by kernel_rfl) <| OWk.E <| SW.ret ?_
      cases h
      exact gh.ret [] (by kernel_rfl)
    ·replace h := ao hc h
     refine OWk.sg 58 r9.2 [53] [0] 18 [(0, vB false)] (by kernel_rfl) <| OWk.E <| SW.ret ?_
     cases h
     exact gh.ret [] (by kernel_rfl)
   ·replace h := dN h
    refine ax <| af ?_
    cases h
    exact hE
structure Act where
 Kind : Int
 Key : Int
 Row : (List Value)
 wY : (List Value)
 deriving DecidableEq, Inhabited
def nm (x : Act) : D := .agg [.int .i64 x.Kind, .int .i64 x.Key, .list 3 (List.map ag x.Row), .list 3 (List.map ag x.wY)]
def nf (fuel : Nat) (p1 : (List Act)) (y1 : Int) : Option ((Int) ⊕ ((Unit) ⊕ ((Bool)))) :=
 bif ((decide (y1 < (p1.length : Int))) && (decide (y1 < 80))) then
  (idx p1 y1).bind fun x2 =>
  (idx p1 y1).bind fun x3 =>
  (ie fuel [x2.Row, x3.wY]).bind fun r4 =>
  bif (!r4) then
   some (.inr (.inr false))
  else
   some (.inl (IntKind.wrap .i64 (y1 + 1)))
 else
  some (.inr (.inl ()))
def pD (fuel : Nat) (p0 : ah) (p1 : (List Act)) : Option (Bool) :=
 (iter (nf fuel p1) fuel 0).bind (Sum.elim (fun v6 =>
  bif (decide ((p1.length : Int) ≤ 80)) then
   bif (decide ((p0.aq.length : Int) ≤ 20)) then
    some (decide ((p0.Down.length : Int) ≤ 20))
   else
    some false
  else
   some false) (fun r7 =>
  some r7))
def D5 (x0 : (List Node)) : SV := vB (decide ((x0.length : Int) > 40))
def qb (x0 : (List Act)) : SV := .d (.list 4 (List.map nm x0))
def A1 (x0 : Act) : SV := .d (.list 3 (List.map ag x0.Row))
def D4 (x0 : Act) : SV := .d (.list 3 (List.map ag x0.wY))
def D3 (x0 : Act) (x1 : Act) : SV := .own 1 (List.map nQ [x0.Row, x1.wY])
def D2 (x0 : Int) (x1 : (List Act)) : SV := vB (decide (x0 < (x1.length : Int)))
def D1 (x0 : (List Act)) : SV := vB (decide ((x0.length : Int) ≤ 80))
def D0 (x0 : ah) : SV := vB (decide ((x0.aq.length : Int) ≤ 20))
def DZ (x0 : ah) : SV := vB (decide ((x0.Down.length : Int) ≤ 20))
def K53 := fun a0 a1 a2 (t : SL) => ((1, qb a0) :: (2, Z1 a1) :: (5, vI a2) :: t : SL)
theorem wG {fuel : Nat} {p0 : ah} {p1 : (List Act)} {r : Bool} (h : pD fuel p0 p1 = some r) : PC Try.prog 5 [.d (bo p0), .d (.list 4 (List.map nm p1))] (vB r) := by
 refine PC.br Try.func5 rfl fun H => ?_
 unfold pD at h
 refine SW.kp 44 H [0, 1] [(0, Z23 p0), (1, qb p1)] (by kernel_rfl) <| SW.R 1 [(1, qb p1), (2, Z1 p0)] <| SW.seq <| SW.R 1 [(1, qb p1), (2, Z1 p0), (5, vI 0)] <| SW.block ?_
 obtain ⟨z5, hit, h⟩ := aa h
 refine SW.it 44 H [1, 2, 5] (fun y1 => (K53 p1 p0 y1 [])) (fun b e s => ((∃ v6, b = (.inl v6) ∧ (e = .exit 0 ∧ s = (sp 44 [(1, qb p1), (2, Z1 p0)] H))) ∨ (∃ r7, b = (.inr r7) ∧ (e = .ret ∧ aA Try.prog Try.f5.results.toList H (vB r7) .ret s)))) hit (by kernel_rfl) (fun y1 o h => ?_) ?_
 ·unfold nf at h
  refine SW.seq <| SW.S <| OWk.G 2 (K53 p1 p0 y1 [(6, vI y1), (7, qb p1)]) <| OWk.O (d := some 8) (K53 p1 p0 y1 [(6, vI y1), (8, vI (p1.length : Int))]) (BAt.len (enc := nm) (xs := p1) (by kernel_rfl)) <| OWk.G 2 (K53 p1 p0 y1 [(10, D2 y1 p1)]) <| OWk.M 3 (decide (y1 < (p1.length : Int))) (fun b => (K53 p1 p0 y1 [(10, vB b)])) (fun b => (K53 p1 p0 y1 [(13, vB (b && (decide (y1 < 80))))])) <| OWk.E ?_
  refine SW.B ((decide (y1 < (p1.length : Int))) && (decide (y1 < 80))) (fun hc => ?_) (fun hc => ?_)
  ·replace h := an hc h
   refine SW.skip <| ad <| SW.seq <| SW.block <| SW.seq <| SW.fD 10 (by kernel_rfl) (by kernel_rfl) <| OBk.G 2 (K53 p1 p0 y1 [(16, qb p1), (17, vI y1)]) ?_
   obtain ⟨x2, hx, h⟩ := aa h
   refine OBk.O (d := some 18) (s := aO none (Go.Sh.D.cells (nm x2))) (K53 p1 p0 y1 [(18, .d (.aR [.int .i64 x2.Kind, .int .i64 x2.Key, .list 3 (List.map ag x2.Row), .list 3 (List.map ag x2.wY)]))]) (BAt.index (n := 4) hx (by kernel_rfl)) <| OBk.G 4 (K53 p1 p0 y1 [(20, A1 x2), (21, qb p1), (22, vI y1)]) ?_
   obtain ⟨x3, hx, h⟩ := aa h
   refine OBk.O (d := some 23) (s := aO none (Go.Sh.D.cells (nm x3))) (K53 p1 p0 y1 [(20, A1 x2), (23, .d (.aR [.int .i64 x3.Kind, .int .i64 x3.Key, .list 3 (List.map ag x3.Row), .list 3 (List.map ag x3.wY)]))]) (BAt.index (n := 4) hx (by kernel_rfl)) <| OBk.G 2 (K53 p1 p0 y1 [(20, A1 x2), (25, D4 x3)]) <| OBk.done (by kernel_rfl) <| OWk.G 1 (K53 p1 p0 y1 [(26, D3 x2 x3)]) ?_
   obtain ⟨r4, hr, h⟩ := aa h
   refine OWk.C (d := some 27) (ls := [(.slot 26)]) (gs := []) [] (K53 p1 p0 y1 [(27, vB r4)]) (nN hr) <| OWk.G 1 (K53 p1 p0 y1 [(28, vB (!r4))]) <| OWk.E ?_
   refine SW.B (!r4) (fun hc => ?_) (fun hc => ?_)
   ·replace h := an hc h
    refine SW.R 1 [(4, vB false)] <| SW.ret <| ax <| af ?_
    cases h
    refine af ?_
    exact ⟨_, rfl, .inr (⟨false, rfl, rfl, aA.ret [] (by kernel_rfl) rfl⟩)⟩
   ·replace h := ao hc h
    refine SW.skip <| aH <| ad <| SW.au <| OWk.G 3 [(1, qb p1), (2, Z1 p0), (5, Z18 y1)] <| OWk.D ?_
    cases h
    exact ⟨(IntKind.wrap .i64 (y1 + 1)), rfl, by kernel_rfl⟩
  ·replace h := ao hc h
   refine SW.K [(1, qb p1), (2, Z1 p0)] <| SW.exit <| aJ ?_
   cases h
   refine aJ ?_
   exact ⟨_, rfl, .inl ⟨(), rfl, rfl, rfl⟩⟩
 ·rintro _ _ (⟨v6, rfl, rfl, rfl⟩ | ⟨r7, rfl, rfl, hE⟩)
  ·replace h := dO h
   refine aT <| ad <| SW.S <| OWk.G 1 [(2, Z1 p0), (29, qb p1)] <| OWk.O (d := some 30) [(2, Z1 p0), (30, vI (p1.length : Int))] (BAt.len (enc := nm) (xs := p1) (by kernel_rfl)) <| OWk.G 2 [(2, Z1 p0), (32, D1 p1)] ?_
   refine OWk.case (decide ((p1.length : Int) ≤ 80)) (fun b => (sp 44 [(2, Z1 p0), (32, vB b)] H)) (by kernel_rfl) (fun hc => ?_) (fun hc => ?_)
   ·replace h := an hc h
    refine OWk.G 2 [(2, Z1 p0), (32, vB true), (34, Z24 p0)] <| OWk.O (d := some 35) [(2, Z1 p0), (32, vB true), (35, Z37 p0)] (BAt.len (enc := (D.int .i64)) (xs := p0.aq) (by kernel_rfl)) <| OWk.G 3 [(2, Z1 p0), (38, D0 p0)] ?_
    refine OWk.case (decide ((p0.aq.length : Int) ≤ 20)) (fun b => (sp 44 [(2, Z1 p0), (38, vB b)] H)) (by kernel_rfl) (fun hc => ?_) (fun hc => ?_)
    ·replace h := an hc h
     refine OWk.G 2 [(38, vB true), (40, Z27 p0)] <| OWk.O (d := some 41) [(38, vB true), (41, Z28 p0)] (BAt.len (enc := D.bool) (xs := p0.Down) (by kernel_rfl)) <| OWk.G 3 [(4, DZ p0)] <| OWk.E <| SW.ret ?_
     cases h
     exact aA.ret [] (by kernel_rfl) rfl
    ·replace h := ao hc h
     refine OWk.G 6 [(4, vB false)] <| OWk.E <| SW.ret ?_
     cases h
     exact aA.ret [] (by kernel_rfl) rfl
   ·replace h := ao hc h
    refine OWk.G 12 [(4, vB false)] <| OWk.E <| SW.ret ?_
    cases h
    exact aA.ret [] (by kernel_rfl) rfl
  ·replace h := dN h
   refine ax <| af ?_
   cases h
   exact hE
structure T82 where
 low : (Option Entry)
 high : (Option Entry)
 deriving DecidableEq, Inhabited
def rZ (x : T82) : D := .agg [aP ab x.low, aP ab x.high]
def AF : Cl Node := ((cI .i64).one.pair ((cL 3 aK).one.pair (cL 1 (cI .i64)).one)).iso (fun p => (⟨p.1, p.2.1, p.2.2⟩ : Node)) (fun x => (x.Level, x.Entries, x.Kids)) (fun _ => rfl) (fun _ => rfl)
def jI : Cd Node := AF.agg
def fv (fuel : Nat) (p0 : Nat) (H : Hp) : Option (Int) :=
 (bg (cI .i64).cell H p0 3).bind fun x1 =>
 some (IntKind.wrap .i64 (Int.tdiv x1 2))
def DY (x0 : Nat) (x1 : (List Node)) (x2 : (Hp × Nat)) : SV := .d (.agg [.ptr x0 0, .list 3 (List.map aI x1), .int .i64 0, .map x2.2, .int .i64 0])
def DX : SV := .d (.agg [.aL, .aL])
def yD (x0 : T82) : SV := .box [.d (aP ab x0.low), .d (aP ab x0.high)]
def A0 (x0 : Int) (x1 : (List Node)) : SV := vB (decide (x0 ≥ (x1.length : Int)))
def zJ (x0 : Nat) (x1 : (List Node)) : SV := .bf (.ai x0 1) 3 (List.map aI x1)
def eG (x0 : Node) : SV := .box [vI x0.Level, .d (.list 3 (List.map ab x0.Entries)), .d (.list 1 (List.map (D.int .i64) x0.Kids))]
def DW (x0 : Node) : SV := vB (decide (x0.Level > 0))
def DV (x0 : Node) : SV := vI (IntKind.wrap .i64 ((x0.Entries.length : Int) + 1))
def Ce (x0 : Node) : SV := .d (.agg [.int .i64 x0.Level, .list 3 (List.map ab x0.Entries), .list 1 (List.map (D.int .i64) x0.Kids)])
def AZ (x0 : T82) : SV := .d (.agg [aP ab x0.low, aP ab x0.high])
def DU (x0 : Node) (x1 : Int) : SV := vB (decide ((x0.Entries.length : Int) > x1))
def AY (x0 : Int) : SV := vI (IntKind.wrap .i64 (Int.tdiv x0 2))
theorem n6 {fuel : Nat} {p0 : Nat} {H : Hp} {r : Int} (h : fv fuel p0 H = some r) : SC Try.prog true 67 [.d (.ptr p0 0)] H (vI r) H := by
 refine SC.gL Try.func67 rfl ?_
 unfold fv at h
 refine SW.kp 8 H [0] [(0, .d (.ptr p0 0))] (by kernel_rfl) <| SW.R 1 [(0, .d (.ptr p0 0))] <| SW.S <| OWk.G 3 [(5, .d (.ptr p0 3))] ?_
 obtain ⟨x1, hx, h⟩ := aa h
 refine OWk.O (d := some 6) (s := vI x1) [(6, vI x1)] (BAt.ldH (c := (cI .i64).cell) hx (by kernel_rfl)) <| OWk.G 2 [(2, AY x1)] <| OWk.E <| SW.ret ?_
 cases h
 exact aA.ret [] (by kernel_rfl) rfl
def bp (fuel : Nat) (p0 : Nat) (p1 : Node) (y9 : Int × (List Entry) × (List Int) × Int × Hp) : Option ((Int × (List Entry) × (List Int) × Int × Hp) ⊕ ((Hp) ⊕ (((Bool) × Hp)))) :=
 bif (decide (y9.2.2.2.1 < (p1.Entries.length : Int))) then
  (idx p1.Entries y9.2.2.2.1).bind fun x10 =>
  aX (fun (j11 : Bool) =>
   bif j11 then
    some (.inr (.inr (false, y9.2.2.2.2)))
   else
    (bg cM.cell y9.2.2.2.2 p0 3).bind fun x23 =>
    (pK (kI .i64) cB y9.2.2.2.2 x23 x10.Number true).bind fun H24 =>
    aX (fun (j25 : Unit) =>
     bif (decide (y9.2.2.2.1 > 0)) then
      (bg cP.cell H24 p0 0).bind fun x32 =>
      x32.bind fun i33 =>
      (bg (cI .i64).cell H24 i33 2).bind fun x34 =>
      bif (x34 == 1) then
       (bg cP.cell H24 p0 0).bind fun x35 =>
       x35.bind fun i36 =>
       (bg bu.cells H24 i36 0).bind fun x37 =>
       (idx y9.2.1 (IntKind.wrap .i64 (y9.2.2.2.1 - 1))).bind fun x38 =>
       (lr fuel x37 x38.Row x10.Row).bind fun r39 =>
       bif (r39 == 0) then
        some (.inr (.inr (false, H24)))
       else
        some (.inl (y9.1, y9.2.1, y9.2.2.1, (IntKind.wrap .i64 (y9.2.2.2.1 + 1)), H24))
      else
       some (.inl (y9.1, y9.2.1, y9.2.2.1, (IntKind.wrap .i64 (y9.2.2.2.1 + 1)), H24))
     else
      some (.inl (y9.1, y9.2.1, y9.2.2.1, (IntKind.wrap .i64 (y9.2.2.2.1 + 1)), H24))) fun jp26 =>
    bif (decide (y9.2.2.2.1 > 0)) then
     (bg cP.cell H24 p0 0).bind fun x27 =>
     x27.bind fun i28 =>
     (bg bu.cells H24 i28 0).bind fun x29 =>
     (idx y9.2.1 (IntKind.wrap .i64 (y9.2.2.2.1 - 1))).bind fun x30 =>
     (fT fuel x29 x30 x10).bind fun r31 =>
     bif (decide (r31 ≥ 0)) then
      some (.inr (.inr (false, H24)))
     else
      jp26 ()
    else
     jp26 ()) fun jp12 =>
  (bg cP.cell y9.2.2.2.2 p0 0).bind fun x13 =>
  x13.bind fun i14 =>
  (bg bu.cells y9.2.2.2.2 i14 0).bind fun x15 =>
  (mR fuel x15 x10.Row).bind fun r16 =>
  bif (!r16) then
   jp12 true
  else
   (sA fuel x10.Key).bind fun r17 =>
   bif ((!r17) || (decide (x10.Number < 1))) then
    jp12 true
   else
    (bg cP.cell y9.2.2.2.2 p0 0).bind fun x18 =>
    x18.bind fun i19 =>
    (bg (cI .i64).cell y9.2.2.2.2 i19 5).bind fun x20 =>
    bif (decide (x10.Number > x20)) then
     jp12 true
    else
     (bg cM.cell y9.2.2.2.2 p0 3).bind fun x21 =>
     (pM (kI .i64) cB y9.2.2.2.2 x21 x10.Number).bind fun q22 =>
     jp12 (q22.getD false)
 else
  some (.inr (.inl y9.2.2.2.2))
def bI (fuel : Nat) (p0 : Nat) (p1 : Node) (p2 : Bool) (p3 : T82) (H : Hp) : Option ((Bool) × Hp) :=
 aX (fun (j1 : Unit) =>
  (iter (bp fuel p0 p1) fuel (p1.Level, p1.Entries, p1.Kids, 0, H)).bind (Sum.elim (fun v41 =>
   some (true, v41)) (fun r42 =>
   some r42))) fun jp2 =>
 (bg cP.cell H p0 0).bind fun x3 =>
 x3.bind fun i4 =>
 (bg (cI .i64).cell H i4 3).bind fun x5 =>
 bif (decide ((p1.Entries.length : Int) > x5)) then
  some (false, H)
 else
  bif (!p2) then
   (bg cP.cell H p0 0).bind fun x6 =>
   x6.bind fun i7 =>
   (fv fuel i7 H).bind fun r8 =>
   bif (decide ((p1.Entries.length : Int) < r8)) then
    some (false, H)
   else
    jp2 ()
  else
   jp2 ()
def DT (x0 : Node) (x1 : Int) : SV := vB (decide ((x0.Entries.length : Int) < x1))
def DS (x0 : Bool) (x1 : Entry) : SV := vB ((!x0) || (decide (x1.Number < 1)))
def Cb (x0 : Entry) (x1 : Int) : SV := vB (decide (x0.Number > x1))
def eW (x0 : Int × (List Entry) × (List Int) × Int × Hp) : SV := .box [vI x0.1, .d (.list 3 (List.map ab x0.2.1)), .d (.list 1 (List.map (D.int .i64) x0.2.2.1))]
def DR (x0 : Int × (List Entry) × (List Int) × Int × Hp) (x1 : Node) : SV := vB (decide (x0.2.2.2.1 < (x1.Entries.length : Int)))
def AX (x0 : Int × (List Entry) × (List Int) × Int × Hp) : SV := vB (decide (x0.2.2.2.1 > 0))
def vh (x0 : Int × (List Entry) × (List Int) × Int × Hp) : SV := .d (.list 3 (List.map ab x0.2.1))
def AW (x0 : Int × (List Entry) × (List Int) × Int × Hp) : SV := vI (IntKind.wrap .i64 (x0.2.2.2.1 - 1))
def ou (x0 : Int × (List Entry) × (List Int) × Int × Hp) : SV := vI (IntKind.wrap .i64 (x0.2.2.2.1 + 1))
def K4 := fun a0 a1 a2 a3 a4 a5 a6 (t : SL) => ((0, .d (.ptr a0 0)) :: (5, eW a1) :: (10, vI a2) :: (11, Z76 a3) :: (38, Z3 a4) :: (39, Z8 a5) :: (40, vI a6) :: t : SL)
def K39 := fun a0 a1 a2 a3 (t : SL) => ((0, .d (.ptr a0 0)) :: (5, eW a1) :: (38, Z3 a2) :: (39, Z8 a3) :: t : SL)
def K50 := fun a0 a1 a2 (t : SL) => ((0, .d (.ptr a0 0)) :: (2, vB a1) :: (5, eG a2) :: t : SL)
def K58 := fun a0 a1 (t : SL) => ((0, .d (.ptr a0 0)) :: (5, eG a1) :: t : SL)
theorem lU {fuel : Nat} {p0 : Nat} {p1 : Node} {p2 : Bool} {p3 : T82} {H : Hp} {r : (Bool) × Hp} (h : bI fuel p0 p1 p2 p3 H = some r) : SC Try.prog false 53 [.d (.ptr p0 0), .d (aI p1), vB p2, .d (rZ p3)] H (vB r.1) r.2 := by
 refine SC.ga Try.func53 rfl ?_
 unfold bI at h
 refine SW.kp 148 H [0, 1, 2, 3] [(0, .d (.ptr p0 0)), (1, Ce p1), (2, vB p2), (3, AZ p3)] (by kernel_rfl) <| SW.R 1 (K50 p0 p2 p1 []) <| SW.S <| OWk.G 2 (K50 p0 p2 p1 [(13, Z3 p1)]) <| OWk.O (d := some 14) (K50 p0 p2 p1 [(14, Z8 p1)]) (BAt.len (enc := ab) (xs := p1.Entries) (by kernel_rfl)) <| OWk.G 1 (K50 p0 p2 p1 [(9, Z8 p1)]) <| OWk.E ?_
 obtain ⟨jp2, hjjp2, h⟩ := bt h
 refine SW.jn 148 H [0, 5] (fun (j1 : Unit) => (K58 p0 p1 [])) (fun v => jp2 v = some r) (fun j1 h => ?_) ?_
 ·rw [hjjp2] at h
  refine SW.seq <| SW.S <| OWk.G 2 (K58 p0 p1 [(38, Z3 p1)]) <| OWk.O (d := some 39) (K58 p0 p1 [(38, Z3 p1), (39, Z8 p1)]) (BAt.len (enc := ab) (xs := p1.Entries) (by kernel_rfl)) <| OWk.G 1 (K58 p0 p1 [(38, Z3 p1), (39, Z8 p1), (40, vI 0)]) <| OWk.E <| SW.block ?_
  obtain ⟨z40, hit, h⟩ := aa h
  refine SW.itH 148 [0, 5, 38, 39, 40] (fun y9 => [(0, .d (.ptr p0 0)), (5, .box [vI y9.1, .d (.list 3 (List.map ab y9.2.1)), .d (.list 1 (List.map (D.int .i64) y9.2.2.1))]), (38, Z3 p1), (39, Z8 p1), (40, vI y9.2.2.2.1)]) (fun y9 => y9.2.2.2.2) (fun b e s => ((∃ v41, b = (.inl v41) ∧ (e = .exit 0 ∧ s = (sp 148 [] v41))) ∨ (∃ r42, b = (.inr r42) ∧ (e = .ret ∧ aA Try.prog Try.f53.results.toList r42.2 (vB r42.1) .ret s)))) hit (by kernel_rfl) (fun y9 o h => ?_) ?_
  ·unfold bp at h
   refine SW.R 1 (K39 p0 y9 p1 p1 [(40, vI y9.2.2.2.1), (41, DR y9 p1)]) <| SW.seq ?_
   refine SW.B (decide (y9.2.2.2.1 < (p1.Entries.length : Int))) (fun hc => ?_) (fun hc => ?_)
   ·replace h := an hc h
    refine SW.skip <| ad <| SW.seq <| SW.block <| SW.S <| OWk.G 1 (K39 p0 y9 p1 p1 [(40, vI y9.2.2.2.1), (42, vI y9.2.2.2.1)]) ?_
    obtain ⟨x10, hx, h⟩ := aa h
    refine OWk.O (d := some 43) (s := aO none (Go.Sh.D.cells (ab x10))) (K39 p0 y9 p1 p1 [(40, vI y9.2.2.2.1), (42, vI y9.2.2.2.1), (43, .d (.aR [.list 3 (List.map ag x10.Row), .int .i64 x10.Key, .int .i64 x10.Number]))]) (BAt.index (n := 3) hx (by kernel_rfl)) <| OWk.G 4 (K4 p0 y9 y9.2.2.2.1 x10 p1 p1 y9.2.2.2.1 []) <| OWk.E <| SW.seq ?_
    obtain ⟨jp12, hjjp12, h⟩ := bt h
    refine SW.jn 148 y9.2.2.2.2 [0, 5, 10, 11, 38, 39, 40, 87] (fun (j11 : Bool) => (K4 p0 y9 y9.2.2.2.1 x10 p1 p1 y9.2.2.2.1 [(87, vB j11)])) (fun v => jp12 v = some o) (fun j11 h => ?_) ?_
    ·rw [hjjp12] at h
     refine SW.B j11 (fun hc => ?_) (fun hc => ?_)
     ·replace h := an hc h
      refine SW.R 1 [(8, vB false)] <| SW.ret <| af <| ax <| af ?_
      cases h
      refine af ?_
      exact ⟨_, rfl, .inr (⟨(false, y9.2.2.2.2), rfl, rfl, aA.ret [] (by kernel_rfl) rfl⟩)⟩
     ·replace h := ao hc h
      refine SW.skip <| ad <| SW.seq <| SW.fD 6 (by kernel_rfl) (by kernel_rfl) <| OBk.G 3 (K4 p0 y9 y9.2.2.2.1 x10 p1 p1 y9.2.2.2.1 [(90, .d (.ptr p0 3))]) ?_
      obtain ⟨x23, hx, h⟩ := aa h
      refine OBk.O (d := some 91) (s := .d (cM.enc x23)) (K4 p0 y9 y9.2.2.2.1 x10 p1 p1 y9.2.2.2.1 [(91, .d (cM.enc x23))]) (BAt.ldH (c := cM.cell) hx (by kernel_rfl)) <| OBk.G 2 (K4 p0 y9 y9.2.2.2.1 x10 p1 p1 y9.2.2.2.1 [(91, .d (cM.enc x23)), (93, vI x10.Number)]) <| OBk.done (by kernel_rfl) ?_
      obtain ⟨H24, hx, h⟩ := aa h
      refine OWk.CD 148 H24 (kc := (kI .i64)) (v := cB) (mm := x23) (key := x10.Number) (y := true) [0, 5, 10, 11, 38, 39, 40] (K4 p0 y9 y9.2.2.2.1 x10 p1 p1 y9.2.2.2.1 []) hx (by kernel_rfl) (by kernel_rfl) <| OWk.E ?_
      obtain ⟨jp26, hjjp26, h⟩ := bt h
      refine SW.jn 148 H24 [0, 5, 10, 11, 38, 39, 40] (fun (j25 : Unit) => (K4 p0 y9 y9.2.2.2.1 x10 p1 p1 y9.2.2.2.1 [])) (fun v => jp26 v = some o) (fun j25 h => ?_) ?_
      ·rw [hjjp26] at h
       refine SW.seq <| SW.cw (by kernel_rfl) (by kernel_rfl) <| OQk.G 3 (K4 p0 y9 y9.2.2.2.1 x10 p1 p1 y9.2.2.2.1 [(116, AX y9)]) ?_
       refine OQk.case (decide (y9.2.2.2.1 > 0)) (fun b => (sp 148 (K4 p0 y9 y9.2.2.2.1 x10 p1 p1 y9.2.2.2.1 [(116, vB b)]) H24)) (by kernel_rfl) (fun hc => ?_) (fun hc => ?_)
       ·replace h := an hc h
        refine OQk.G 3 (K4 p0 y9 y9.2.2.2.1 x10 p1 p1 y9.2.2.2.1 [(116, vB true), (119, .d (.ptr p0 0))]) ?_
        obtain ⟨x32, hx, h⟩ := aa h
        refine OQk.on 148 H24 (d := some 120) (s := .d (cP.enc x32)) [0, 5, 10, 11, 38, 39, 40, 116, 120] (K4 p0 y9 y9.2.2.2.1 x10 p1 p1 y9.2.2.2.1 [(116, vB true), (120, .d (cP.enc x32))]) (BAt.ldH (c := cP.cell) hx (by kernel_rfl)) (by kernel_rfl) ?_
        obtain ⟨i33, hp_i33, h⟩ := aa h
        refine OQk.on 148 H24 (d := some 121) (s := .d (.ptr i33 0)) [0, 5, 10, 11, 38, 39, 40, 116, 121] (K4 p0 y9 y9.2.2.2.1 x10 p1 p1 y9.2.2.2.1 [(116, vB true), (121, .d (.ptr i33 0))]) (BAt.oe (p := x32) hp_i33 (by kernel_rfl)) (by kernel_rfl) <| OQk.G 2 (K4 p0 y9 y9.2.2.2.1 x10 p1 p1 y9.2.2.2.1 [(116, vB true), (123, .d (.ptr i33 2))]) ?_
        obtain ⟨x34, hx, h⟩ := aa h
        refine OQk.on 148 H24 (d := some 124) (s := vI x34) [0, 5, 10, 11, 38, 39, 40, 116, 124] (K4 p0 y9 y9.2.2.2.1 x10 p1 p1 y9.2.2.2.1 [(116, vB true), (124, vI x34)]) (BAt.ldH (c := (cI .i64).cell) hx (by kernel_rfl)) (by kernel_rfl) <| OQk.G 3 (K4 p0 y9 y9.2.2.2.1 x10 p1 p1 y9.2.2.2.1 [(127, vB (x34 == 1))]) ?_
        refine OQk.case (x34 == 1) (fun b => (sp 148 (K4 p0 y9 y9.2.2.2.1 x10 p1 p1 y9.2.2.2.1 [(127, vB b)]) H24)) (by kernel_rfl) (fun hc => ?_) (fun hc => ?_)
        ·replace h := an hc h
         refine OQk.G 3 (K4 p0 y9 y9.2.2.2.1 x10 p1 p1 y9.2.2.2.1 [(127, vB true), (130, .d (.ptr p0 0))]) ?_
         obtain ⟨x35, hx, h⟩ := aa h
         refine OQk.on 148 H24 (d := some 131) (s := .d (cP.enc x35)) [0, 5, 10, 11, 38, 39, 40, 127, 131] (K4 p0 y9 y9.2.2.2.1 x10 p1 p1 y9.2.2.2.1 [(127, vB true), (131, .d (cP.enc x35))]) (BAt.ldH (c := cP.cell) hx (by kernel_rfl)) (by kernel_rfl) ?_
         obtain ⟨i36, hp_i36, h⟩ := aa h
         refine OQk.on 148 H24 (d := some 132) (s := .d (.ptr i36 0)) [0, 5, 10, 11, 38, 39, 40, 127, 132] (K4 p0 y9 y9.2.2.2.1 x10 p1 p1 y9.2.2.2.1 [(127, vB true), (132, .d (.ptr i36 0))]) (BAt.oe (p := x35) hp_i36 (by kernel_rfl)) (by kernel_rfl) <| OQk.G 1 (K4 p0 y9 y9.2.2.2.1 x10 p1 p1 y9.2.2.2.1 [(127, vB true), (133, .d (.ptr i36 0))]) ?_
         obtain ⟨x37, hx, h⟩ := aa h
         refine OQk.on 148 H24 (d := some 134) (s := .d (.agg [.list 1 (List.map (D.int .i64) x37.aq), .list 1 (List.map D.bool x37.Down), .int .i64 x37.Dup])) [0, 5, 10, 11, 38, 39, 40, 127, 134] (K4 p0 y9 y9.2.2.2.1 x10 p1 p1 y9.2.2.2.1 [(127, vB true), (134, Z23 x37)]) (BAt.ldH (c := bu.cells) hx (by kernel_rfl)) (by kernel_rfl) <| OQk.G 4 [(0, .d (.ptr p0 0)), (5, eW y9), (11, Z76 x10), (38, Z3 p1), (39, Z8 p1), (40, vI y9.2.2.2.1), (127, vB true), (134, Z23 x37), (136, vh y9), (138, AW y9)] ?_
         obtain ⟨x38, hx, h⟩ := aa h
         refine OQk.on 148 H24 (d := some 139) (s := aO none (Go.Sh.D.cells (ab x38))) [0, 5, 11, 38, 39, 40, 127, 134, 139] [(0, .d (.ptr p0 0)), (5, eW y9), (11, Z76 x10), (38, Z3 p1), (39, Z8 p1), (40, vI y9.2.2.2.1), (127, vB true), (134, Z23 x37), (139, .d (.aR [.list 3 (List.map ag x38.Row), .int .i64 x38.Key, .int .i64 x38.Number]))] (BAt.index (n := 3) hx (by kernel_rfl)) (by kernel_rfl) <| OQk.G 4 (K39 p0 y9 p1 p1 [(40, vI y9.2.2.2.1), (127, vB true), (134, Z23 x37), (141, Z84 x38), (143, Z84 x10)]) ?_
         obtain ⟨r39, hr, h⟩ := aa h
         refine OQk.cl 148 H24 (d := some 144) (ls := []) [0, 5, 38, 39, 40, 127, 144] (K39 p0 y9 p1 p1 [(40, vI y9.2.2.2.1), (127, vB true), (144, vI r39)]) (mP hr) (by kernel_rfl) (by kernel_rfl) (by kernel_rfl) <| OQk.G 2 (K39 p0 y9 p1 p1 [(40, vI y9.2.2.2.1), (146, vB (r39 == 0))]) <| OQk.done (by kernel_rfl) <| ad ?_
         refine SW.B (r39 == 0) (fun hc => ?_) (fun hc => ?_)
         ·replace h := an hc h
          refine SW.R 1 [(8, vB false)] <| SW.ret <| ax <| af ?_
          cases h
          refine af ?_
          exact ⟨_, rfl, .inr (⟨(false, H24), rfl, rfl, aA.ret [] (by kernel_rfl) rfl⟩)⟩
         ·replace h := ao hc h
          refine SW.skip <| aH <| ad <| SW.au <| OWk.G 2 (K39 p0 y9 p1 p1 [(40, ou y9)]) <| OWk.D ?_
          cases h
          exact ⟨(y9.1, y9.2.1, y9.2.2.1, (IntKind.wrap .i64 (y9.2.2.2.1 + 1)), H24), rfl, by kernel_rfl⟩
        ·replace h := ao hc h
         refine OQk.G 19 (K39 p0 y9 p1 p1 [(40, vI y9.2.2.2.1), (146, vB false)]) <| OQk.done (by kernel_rfl) <| ad <| SW.fh (by kernel_rfl) <| SW.skip <| aH <| ad <| SW.au <| OWk.G 2 (K39 p0 y9 p1 p1 [(40, ou y9)]) <| OWk.D ?_
         cases h
         exact ⟨(y9.1, y9.2.1, y9.2.2.1, (IntKind.wrap .i64 (y9.2.2.2.1 + 1)), H24), rfl, by kernel_rfl⟩
       ·replace h := ao hc h
        refine OQk.G 30 (K39 p0 y9 p1 p1 [(40, vI y9.2.2.2.1), (146, vB false)]) <| OQk.done (by kernel_rfl) <| ad <| SW.fh (by kernel_rfl) <| SW.skip <| aH <| ad <| SW.au <| OWk.G 2 (K39 p0 y9 p1 p1 [(40, ou y9)]) <| OWk.D ?_
        cases h
        exact ⟨(y9.1, y9.2.1, y9.2.2.1, (IntKind.wrap .i64 (y9.2.2.2.1 + 1)), H24), rfl, by kernel_rfl⟩
      ·refine SW.seq <| SW.cw (by kernel_rfl) (by kernel_rfl) <| OQk.G 3 (K4 p0 y9 y9.2.2.2.1 x10 p1 p1 y9.2.2.2.1 [(96, AX y9)]) ?_
       refine OQk.case (decide (y9.2.2.2.1 > 0)) (fun b => (sp 148 (K4 p0 y9 y9.2.2.2.1 x10 p1 p1 y9.2.2.2.1 [(96, vB b)]) H24)) (by kernel_rfl) (fun hc => ?_) (fun hc => ?_)
       ·replace h := an hc h
        refine OQk.G 3 (K4 p0 y9 y9.2.2.2.1 x10 p1 p1 y9.2.2.2.1 [(96, vB true), (99, .d (.ptr p0 0))]) ?_
        obtain ⟨x27, hx, h⟩ := aa h
        refine OQk.on 148 H24 (d := some 100) (s := .d (cP.enc x27)) [0, 5, 10, 11, 38, 39, 40, 96, 100] (K4 p0 y9 y9.2.2.2.1 x10 p1 p1 y9.2.2.2.1 [(96, vB true), (100, .d (cP.enc x27))]) (BAt.ldH (c := cP.cell) hx (by kernel_rfl)) (by kernel_rfl) ?_
        obtain ⟨i28, hp_i28, h⟩ := aa h
        refine OQk.on 148 H24 (d := some 101) (s := .d (.ptr i28 0)) [0, 5, 10, 11, 38, 39, 40, 96, 101] (K4 p0 y9 y9.2.2.2.1 x10 p1 p1 y9.2.2.2.1 [(96, vB true), (101, .d (.ptr i28 0))]) (BAt.oe (p := x27) hp_i28 (by kernel_rfl)) (by kernel_rfl) <| OQk.G 1 (K4 p0 y9 y9.2.2.2.1 x10 p1 p1 y9.2.2.2.1 [(96, vB true), (102, .d (.ptr i28 0))]) ?_
        obtain ⟨x29, hx, h⟩ := aa h
        refine OQk.on 148 H24 (d := some 103) (s := .d (.agg [.list 1 (List.map (D.int .i64) x29.aq), .list 1 (List.map D.bool x29.Down), .int .i64 x29.Dup])) [0, 5, 10, 11, 38, 39, 40, 96, 103] (K4 p0 y9 y9.2.2.2.1 x10 p1 p1 y9.2.2.2.1 [(96, vB true), (103, Z23 x29)]) (BAt.ldH (c := bu.cells) hx (by kernel_rfl)) (by kernel_rfl) <| OQk.G 4 (K4 p0 y9 y9.2.2.2.1 x10 p1 p1 y9.2.2.2.1 [(96, vB true), (103, Z23 x29), (105, vh y9), (107, AW y9)]) ?_
        obtain ⟨x30, hx, h⟩ := aa h
        refine OQk.on 148 H24 (d := some 108) (s := aO none (Go.Sh.D.cells (ab x30))) [0, 5, 10, 11, 38, 39, 40, 96, 103, 108] (K4 p0 y9 y9.2.2.2.1 x10 p1 p1 y9.2.2.2.1 [(96, vB true), (103, Z23 x29), (108, .d (.aR [.list 3 (List.map ag x30.Row), .int .i64 x30.Key, .int .i64 x30.Number]))]) (BAt.index (n := 3) hx (by kernel_rfl)) (by kernel_rfl) <| OQk.G 2 (K4 p0 y9 y9.2.2.2.1 x10 p1 p1 y9.2.2.2.1 [(96, vB true), (103, Z23 x29), (109, Z77 x30), (110, Z77 x10)]) ?_
        obtain ⟨r31, hr, h⟩ := aa h
        refine OQk.cl 148 H24 (d := some 111) (ls := []) [0, 5, 10, 11, 38, 39, 40, 96, 111] (K4 p0 y9 y9.2.2.2.1 x10 p1 p1 y9.2.2.2.1 [(96, vB true), (111, vI r31)]) (jj hr) (by kernel_rfl) (by kernel_rfl) (by kernel_rfl) <| OQk.G 2 (K4 p0 y9 y9.2.2.2.1 x10 p1 p1 y9.2.2.2.1 [(113, vB (decide (r31 ≥ 0)))]) <| OQk.done (by kernel_rfl) <| ad ?_
        refine SW.B (decide (r31 ≥ 0)) (fun hc => ?_) (fun hc => ?_)
        ·replace h := an hc h
         refine SW.R 1 [(8, vB false)] <| SW.ret <| af <| ax <| af ?_
         cases h
         refine af ?_
         exact ⟨_, rfl, .inr (⟨(false, H24), rfl, rfl, aA.ret [] (by kernel_rfl) rfl⟩)⟩
        ·replace h := ao hc h
         refine SW.skip ?_
         exact ⟨(), [], by kernel_rfl, h⟩
       ·replace h := ao hc h
        refine OQk.G 17 (K4 p0 y9 y9.2.2.2.1 x10 p1 p1 y9.2.2.2.1 [(113, vB false)]) <| OQk.done (by kernel_rfl) <| ad <| SW.fh (by kernel_rfl) <| SW.skip ?_
        exact ⟨(), [], by kernel_rfl, h⟩
    ·refine SW.cw (by kernel_rfl) (by kernel_rfl) <| OQk.G 3 (K4 p0 y9 y9.2.2.2.1 x10 p1 p1 y9.2.2.2.1 [(47, .d (.ptr p0 0))]) ?_
     obtain ⟨x13, hx, h⟩ := aa h
     refine OQk.on 148 y9.2.2.2.2 (d := some 48) (s := .d (cP.enc x13)) [0, 5, 10, 11, 38, 39, 40, 48] (K4 p0 y9 y9.2.2.2.1 x10 p1 p1 y9.2.2.2.1 [(48, .d (cP.enc x13))]) (BAt.ldH (c := cP.cell) hx (by kernel_rfl)) (by kernel_rfl) ?_
     obtain ⟨i14, hp_i14, h⟩ := aa h
     refine OQk.on 148 y9.2.2.2.2 (d := some 49) (s := .d (.ptr i14 0)) [0, 5, 10, 11, 38, 39, 40, 49] (K4 p0 y9 y9.2.2.2.1 x10 p1 p1 y9.2.2.2.1 [(49, .d (.ptr i14 0))]) (BAt.oe (p := x13) hp_i14 (by kernel_rfl)) (by kernel_rfl) <| OQk.G 1 (K4 p0 y9 y9.2.2.2.1 x10 p1 p1 y9.2.2.2.1 [(50, .d (.ptr i14 0))]) ?_
     obtain ⟨x15, hx, h⟩ := aa h
     refine OQk.on 148 y9.2.2.2.2 (d := some 51) (s := .d (.agg [.list 1 (List.map (D.int .i64) x15.aq), .list 1 (List.map D.bool x15.Down), .int .i64 x15.Dup])) [0, 5, 10, 11, 38, 39, 40, 51] (K4 p0 y9 y9.2.2.2.1 x10 p1 p1 y9.2.2.2.1 [(51, Z23 x15)]) (BAt.ldH (c := bu.cells) hx (by kernel_rfl)) (by kernel_rfl) <| OQk.G 2 (K4 p0 y9 y9.2.2.2.1 x10 p1 p1 y9.2.2.2.1 [(51, Z23 x15), (53, Z84 x10)]) ?_
     obtain ⟨r16, hr, h⟩ := aa h
     refine OQk.cl 148 y9.2.2.2.2 (d := some 54) (ls := []) [0, 5, 10, 11, 38, 39, 40, 54] (K4 p0 y9 y9.2.2.2.1 x10 p1 p1 y9.2.2.2.1 [(54, vB r16)]) (qC hr) (by kernel_rfl) (by kernel_rfl) (by kernel_rfl) <| OQk.G 2 (K4 p0 y9 y9.2.2.2.1 x10 p1 p1 y9.2.2.2.1 [(56, vB (!r16))]) ?_
     refine OQk.case (!r16) (fun b => (sp 148 (K4 p0 y9 y9.2.2.2.1 x10 p1 p1 y9.2.2.2.1 [(56, vB b)]) y9.2.2.2.2)) (by kernel_rfl) (fun hc => ?_) (fun hc => ?_)
     ·replace h := an hc h
      refine OQk.G 31 (K4 p0 y9 y9.2.2.2.1 x10 p1 p1 y9.2.2.2.1 [(87, vB true)]) <| OQk.done (by kernel_rfl) ?_
      exact ⟨true, [], by kernel_rfl, h⟩
     ·replace h := ao hc h
      refine OQk.G 2 (K4 p0 y9 y9.2.2.2.1 x10 p1 p1 y9.2.2.2.1 [(56, vB false), (58, vI x10.Key)]) ?_
      obtain ⟨r17, hr, h⟩ := aa h
      refine OQk.cl 148 y9.2.2.2.2 (d := some 59) (ls := []) [0, 5, 10, 11, 38, 39, 40, 56, 59] (K4 p0 y9 y9.2.2.2.1 x10 p1 p1 y9.2.2.2.1 [(56, vB false), (59, vB r17)]) (sy hr) (by kernel_rfl) (by kernel_rfl) (by kernel_rfl) <| OQk.G 3 (K4 p0 y9 y9.2.2.2.1 x10 p1 p1 y9.2.2.2.1 [(62, vB (!r17))]) <| OQk.mg 148 y9.2.2.2.2 [0, 5, 10, 11, 38, 39, 40, 66] 4 (!r17) (fun b => (sp 148 (K4 p0 y9 y9.2.2.2.1 x10 p1 p1 y9.2.2.2.1 [(62, vB b)]) y9.2.2.2.2)) (fun b => (K4 p0 y9 y9.2.2.2.1 x10 p1 p1 y9.2.2.2.1 [(66, vB (b || (decide (x10.Number < 1))))])) (by kernel_rfl) (by kernel_rfl) (by kernel_rfl) <| OQk.G 1 (K4 p0 y9 y9.2.2.2.1 x10 p1 p1 y9.2.2.2.1 [(67, DS r17 x10)]) ?_
      refine OQk.case ((!r17) || (decide (x10.Number < 1))) (fun b => (sp 148 (K4 p0 y9 y9.2.2.2.1 x10 p1 p1 y9.2.2.2.1 [(67, vB b)]) y9.2.2.2.2)) (by kernel_rfl) (fun hc => ?_) (fun hc => ?_)
      ·replace h := an hc h
       refine OQk.G 20 (K4 p0 y9 y9.2.2.2.1 x10 p1 p1 y9.2.2.2.1 [(87, vB true)]) <| OQk.done (by kernel_rfl) ?_
       exact ⟨true, [], by kernel_rfl, h⟩
      ·replace h := ao hc h
       refine OQk.G 5 (K4 p0 y9 y9.2.2.2.1 x10 p1 p1 y9.2.2.2.1 [(67, vB false), (69, vI x10.Number), (72, .d (.ptr p0 0))]) ?_
       obtain ⟨x18, hx, h⟩ := aa h
       refine OQk.on 148 y9.2.2.2.2 (d := some 73) (s := .d (cP.enc x18)) [0, 5, 10, 11, 38, 39, 40, 67, 69, 73] (K4 p0 y9 y9.2.2.2.1 x10 p1 p1 y9.2.2.2.1 [(67, vB false), (69, vI x10.Number), (73, .d (cP.enc x18))]) (BAt.ldH (c := cP.cell) hx (by kernel_rfl)) (by kernel_rfl) ?_
       obtain ⟨i19, hp_i19, h⟩ := aa h
       refine OQk.on 148 y9.2.2.2.2 (d := some 74) (s := .d (.ptr i19 0)) [0, 5, 10, 11, 38, 39, 40, 67, 69, 74] (K4 p0 y9 y9.2.2.2.1 x10 p1 p1 y9.2.2.2.1 [(67, vB false), (69, vI x10.Number), (74, .d (.ptr i19 0))]) (BAt.oe (p := x18) hp_i19 (by kernel_rfl)) (by kernel_rfl) <| OQk.G 1 (K4 p0 y9 y9.2.2.2.1 x10 p1 p1 y9.2.2.2.1 [(67, vB false), (69, vI x10.Number), (75, .d (.ptr i19 5))]) ?_
       obtain ⟨x20, hx, h⟩ := aa h
       refine OQk.on 148 y9.2.2.2.2 (d := some 76) (s := vI x20) [0, 5, 10, 11, 38, 39, 40, 67, 69, 76] (K4 p0 y9 y9.2.2.2.1 x10 p1 p1 y9.2.2.2.1 [(67, vB false), (69, vI x10.Number), (76, vI x20)]) (BAt.ldH (c := (cI .i64).cell) hx (by kernel_rfl)) (by kernel_rfl) <| OQk.G 3 (K4 p0 y9 y9.2.2.2.1 x10 p1 p1 y9.2.2.2.1 [(79, Cb x10 x20)]) ?_
       refine OQk.case (decide (x10.Number > x20)) (fun b => (sp 148 (K4 p0 y9 y9.2.2.2.1 x10 p1 p1 y9.2.2.2.1 [(79, vB b)]) y9.2.2.2.2)) (by kernel_rfl) (fun hc => ?_) (fun hc => ?_)
       ·replace h := an hc h
        refine OQk.G 8 (K4 p0 y9 y9.2.2.2.1 x10 p1 p1 y9.2.2.2.1 [(87, vB true)]) <| OQk.done (by kernel_rfl) ?_
        exact ⟨true, [], by kernel_rfl, h⟩
       ·replace h := ao hc h
        refine OQk.G 3 (K4 p0 y9 y9.2.2.2.1 x10 p1 p1 y9.2.2.2.1 [(79, vB false), (82, .d (.ptr p0 3))]) ?_
        obtain ⟨x21, hx, h⟩ := aa h
        refine OQk.on 148 y9.2.2.2.2 (d := some 83) (s := .d (cM.enc x21)) [0, 5, 10, 11, 38, 39, 40, 79, 83] (K4 p0 y9 y9.2.2.2.1 x10 p1 p1 y9.2.2.2.1 [(79, vB false), (83, .d (cM.enc x21))]) (BAt.ldH (c := cM.cell) hx (by kernel_rfl)) (by kernel_rfl) <| OQk.G 2 (K4 p0 y9 y9.2.2.2.1 x10 p1 p1 y9.2.2.2.1 [(79, vB false), (83, .d (cM.enc x21)), (85, vI x10.Number)]) ?_
        obtain ⟨q22, hq, h⟩ := aa h
        refine OQk.on 148 y9.2.2.2.2 (d := some 86) [0, 5, 10, 11, 38, 39, 40, 79, 86] (K4 p0 y9 y9.2.2.2.1 x10 p1 p1 y9.2.2.2.1 [(79, vB false), (86, vB (q22.getD false))]) (BAt.look (kc := (kI .i64)) (v := cB) (ok := false) (mm := x21) (key := x10.Number) (z := false) hq (by kernel_rfl)) (by kernel_rfl) <| OQk.G 1 (K4 p0 y9 y9.2.2.2.1 x10 p1 p1 y9.2.2.2.1 [(87, vB (q22.getD false))]) <| OQk.done (by kernel_rfl) ?_
        exact ⟨(q22.getD false), [], by kernel_rfl, h⟩
   ·replace h := ao hc h
    refine SW.K [] <| SW.exit <| aJ ?_
    cases h
    refine aJ ?_
    exact ⟨_, rfl, .inl ⟨y9.2.2.2.2, rfl, rfl, rfl⟩⟩
  ·rintro _ _ (⟨v41, rfl, rfl, rfl⟩ | ⟨r42, rfl, rfl, hE⟩)
   ·replace h := dO h
    refine aT <| ad <| SW.R 1 [(8, vB true)] <| SW.ret ?_
    cases h
    exact aA.ret [] (by kernel_rfl) rfl
   ·replace h := dN h
    refine ax <| af ?_
    cases h
    exact hE
 ·refine SW.S <| OWk.G 4 (K50 p0 p2 p1 [(9, Z8 p1), (15, Z8 p1), (18, .d (.ptr p0 0))]) ?_
  obtain ⟨x3, hx, h⟩ := aa h
  refine OWk.O (d := some 19) (s := .d (cP.enc x3)) (K50 p0 p2 p1 [(9, Z8 p1), (15, Z8 p1), (19, .d (cP.enc x3))]) (BAt.ldH (c := cP.cell) hx (by kernel_rfl)) ?_
  obtain ⟨i4, hp_i4, h⟩ := aa h
  refine OWk.O (d := some 20) (s := .d (.ptr i4 0)) (K50 p0 p2 p1 [(9, Z8 p1), (15, Z8 p1), (20, .d (.ptr i4 0))]) (BAt.oe (p := x3) hp_i4 (by kernel_rfl)) <| OWk.G 1 (K50 p0 p2 p1 [(9, Z8 p1), (15, Z8 p1), (21, .d (.ptr i4 3))]) ?_
  obtain ⟨x5, hx, h⟩ := aa h
  refine OWk.O (d := some 22) (s := vI x5) (K50 p0 p2 p1 [(9, Z8 p1), (15, Z8 p1), (22, vI x5)]) (BAt.ldH (c := (cI .i64).cell) hx (by kernel_rfl)) <| OWk.G 2 (K50 p0 p2 p1 [(9, Z8 p1), (24, DU p1 x5)]) ?_
  refine OWk.case (decide ((p1.Entries.length : Int) > x5)) (fun b => (sp 148 (K50 p0 p2 p1 [(9, Z8 p1), (24, vB b)]) H)) (by kernel_rfl) (fun hc => ?_) (fun hc => ?_)
  ·replace h := an hc h
   refine OWk.G 12 (K58 p0 p1 [(36, vB true)]) <| OWk.E <| SW.gH (by kernel_rfl) <| SW.R 1 [(8, vB false)] <| SW.ret <| af ?_
   cases h
   exact aA.ret [] (by kernel_rfl) rfl
  ·replace h := ao hc h
   refine OWk.G 3 (K58 p0 p1 [(9, Z8 p1), (24, vB false), (27, vB (!p2))]) ?_
   refine OWk.case (!p2) (fun b => (sp 148 (K58 p0 p1 [(9, Z8 p1), (24, vB false), (27, vB b)]) H)) (by kernel_rfl) (fun hc => ?_) (fun hc => ?_)
   ·replace h := an hc h
    refine OWk.G 4 (K58 p0 p1 [(24, vB false), (27, vB true), (28, Z8 p1), (31, .d (.ptr p0 0))]) ?_
    obtain ⟨x6, hx, h⟩ := aa h
    refine OWk.O (d := some 32) (s := .d (cP.enc x6)) (K58 p0 p1 [(24, vB false), (27, vB true), (28, Z8 p1), (32, .d (cP.enc x6))]) (BAt.ldH (c := cP.cell) hx (by kernel_rfl)) ?_
    obtain ⟨i7, hp_i7, h⟩ := aa h
    refine OWk.asP x6 (fun p => (sp 148 (K58 p0 p1 [(24, vB false), (27, vB true), (28, Z8 p1), (32, .d (cP.enc p))]) H)) (by kernel_rfl) hp_i7 ?_
    obtain ⟨r8, hr, h⟩ := aa h
    refine OWk.CR (ls := []) (some 33) (K58 p0 p1 [(24, vB false), (27, vB true), (28, Z8 p1), (33, vI r8)]) (n6 hr) <| OWk.G 3 (K58 p0 p1 [(36, DT p1 r8)]) <| OWk.E ?_
    refine SW.B (decide ((p1.Entries.length : Int) < r8)) (fun hc => ?_) (fun hc => ?_)
    ·replace h := an hc h
     refine SW.R 1 [(8, vB false)] <| SW.ret <| af ?_
     cases h
     exact aA.ret [] (by kernel_rfl) rfl
    ·replace h := ao hc h
     refine SW.skip ?_
     exact ⟨(), [], by kernel_rfl, h⟩
   ·replace h := ao hc h
    refine OWk.G 9 (K58 p0 p1 [(36, vB false)]) <| OWk.E <| SW.fh (by kernel_rfl) <| SW.skip ?_
    exact ⟨(), [], by kernel_rfl, h⟩
end Go.Sh
