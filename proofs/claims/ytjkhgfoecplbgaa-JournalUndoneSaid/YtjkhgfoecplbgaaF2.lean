/- Printed by a program: functions of the program as plain functions, and that the code computes them. -/
import Derived.Test.YtjkhgfoecplbgaaF1
set_option linter.all false
set_option autoImplicit true
set_option relaxedAutoImplicit true
open Go Go.Proofs
namespace Go.Sh
set_option linter.unusedVariables false
set_option linter.unusedSimpArgs false
set_option maxRecDepth 100000
noncomputable def j_right (fuel : Nat) (p0 : (List Note)) : Option (Int) :=
  (j_Wrong fuel p0).bind fun r1 =>
  bif (r1.2 == 0) then
    some r1.2
  else
    bif (r1.2 == 1) then
      some r1.2
    else
      some 9

theorem j_right_ok {fuel : Nat} {p0 : (List Note)} {r : Int} (h : j_right fuel p0 = some r) : PC Try.prog 40 [.d (.list 5 (List.map encNote p0))] (vI r) := by
  refine PC.of_SW Try.func40 rfl fun H => ?_
  unfold j_right at h
  refine SW.kp 15 H [0] [(0, .d (.list 5 (List.map encNote p0)))] (by kernel_rfl) <| SW.seq <| SW.regionK <| OWk.sg 15 H [] [0] 1 [(0, .d (.list 5 (List.map encNote p0)))] (by kernel_rfl) <| OWk.done (by kernel_rfl) <| thenS_n <| SW.seq <| SW.regionK <| OWk.sg 15 H [] [6] 1 [(6, .d (.list 5 (List.map encNote p0)))] (by kernel_rfl) ?_
  obtain ⟨r1, hr, h⟩ := bind_inv h
  refine OWk.cl 15 H (d := some 7) (ls := []) (gs := []) [] [7] [(7, .tup [vI r1.1, vI r1.2])] (j_Wrong_ok hr) (by kernel_rfl) (by kernel_rfl) (by kernel_rfl) <| OWk.sg 15 H [] [4] 5 [(4, vI r1.2)] (by kernel_rfl) <| OWk.done (by kernel_rfl) <| thenS_n <| SW.seq <| SW.seq <| SW.regionK <| OWk.sg 15 H [] [4, 10] 1 [(4, vI r1.2), (10, vI r1.2)] (by kernel_rfl) <| OWk.done (by kernel_rfl) <| thenS_n <| SW.block <| SW.seq <| SW.seq <| SW.regionK <| OWk.sg 15 H [] [4, 10, 11] 2 [(4, vI r1.2), (10, vI r1.2), (11, vB (r1.2 == 0))] (by kernel_rfl) <| OWk.done (by kernel_rfl) <| thenS_n ?_
  refine SW.case (r1.2 == 0) (fun b => (sp 15 [(4, vI r1.2), (10, vI r1.2), (11, vB b)] H)) (by kernel_rfl) (fun hc => ?_) (fun hc => ?_)
  · replace h := bif_t hc h
    refine SW.condT (by kernel_rfl) <| SW.skip <| thenS_n <| SW.condT (by kernel_rfl) <| SW.seq <| SW.regionK <| OWk.sg 15 H [] [2] 2 [(2, vI r1.2)] (by kernel_rfl) <| OWk.done (by kernel_rfl) <| thenS_n <| SW.ret <| blockS_r <| thenS_r ?_
    cases h
    exact EndQ.ret [] (by kernel_rfl) rfl
  · replace h := bif_f hc h
    refine SW.condF (by kernel_rfl) <| SW.regionK <| OWk.sg 15 H [] [4, 11] 2 [(4, vI r1.2), (11, vB (r1.2 == 1))] (by kernel_rfl) <| OWk.done (by kernel_rfl) <| thenS_n ?_
    refine SW.condB (b := (r1.2 == 1)) (by kernel_rfl) (fun hc => ?_) (fun hc => ?_)
    · replace h := bif_t hc h
      refine SW.seq <| SW.regionK <| OWk.sg 15 H [] [2] 2 [(2, vI r1.2)] (by kernel_rfl) <| OWk.done (by kernel_rfl) <| thenS_n <| SW.ret <| blockS_r <| thenS_r ?_
      cases h
      exact EndQ.ret [] (by kernel_rfl) rfl
    · replace h := bif_f hc h
      refine SW.skip <| blockS_n <| thenS_n <| SW.seq <| SW.regionK <| OWk.sg 15 H [] [2] 1 [(2, vI 9)] (by kernel_rfl) <| OWk.done (by kernel_rfl) <| thenS_n <| SW.ret ?_
      cases h
      exact EndQ.ret [] (by kernel_rfl) rfl

def slices_Reverse_l1 (fuel : Nat) (y1 : (List Image) × Int × Int) : Option (((List Image) × Int × Int) ⊕ ((List Image))) :=
  bif (decide (y1.2.1 < y1.2.2)) then
    (idx y1.1 y1.2.2).bind fun x2 =>
    (idx y1.1 y1.2.1).bind fun x3 =>
    (idx y1.1 y1.2.1).bind fun x4 =>
    chk (decide ((Int.toNat y1.2.1) < y1.1.length)) <|
    (idx (List.set y1.1 (Int.toNat y1.2.1) x2) y1.2.2).bind fun x5 =>
    chk (decide ((Int.toNat y1.2.2) < (List.set y1.1 (Int.toNat y1.2.1) x2).length)) <|
    some (.inl ((List.set (List.set y1.1 (Int.toNat y1.2.1) x2) (Int.toNat y1.2.2) x3), (IntKind.wrap .i64 (y1.2.1 + 1)), (IntKind.wrap .i64 (y1.2.2 - 1))))
  else
    some (.inr y1.1)

def slices_Reverse (fuel : Nat) (p0 : (List Image)) : Option ((List Image)) :=
  (iter (slices_Reverse_l1 fuel) fuel (p0, 0, (IntKind.wrap .i64 ((p0.length : Int) - 1)))).bind fun v7 =>
  some v7

theorem slices_Reverse_ok {fuel : Nat} {p0 : (List Image)} {r : (List Image)} (h : slices_Reverse fuel p0 = some r) : IC Try.prog 38 3 (List.map encImage p0) (List.map encImage r) := by
  refine IC.of_SW Try.func38 rfl rfl fun H v => ?_
  unfold slices_Reverse at h
  refine SW.kp 28 H [0] [(0, .pin v 3 (List.map encImage p0))] (by kernel_rfl) <| SW.seq <| SW.regionK <| OWk.sg 28 H [] [0, 4] 1 [(0, .pin v 3 (List.map encImage p0)), (4, .lent (.slot 0) 3 (List.map encImage p0))] (by kernel_rfl) <| OWk.on 28 H (d := some 5) [0, 5] [(0, .pin v 3 (List.map encImage p0)), (5, vI (p0.length : Int))] (BAt.len (enc := encImage) (xs := p0) (by kernel_rfl)) (by kernel_rfl) <| OWk.sg 28 H [] [0, 2, 3] 3 [(0, .pin v 3 (List.map encImage p0)), (2, vI 0), (3, vI (IntKind.wrap .i64 ((p0.length : Int) - 1)))] (by kernel_rfl) <| OWk.done (by kernel_rfl) <| thenS_n <| SW.block ?_
  obtain ⟨v7, hit, h⟩ := bind_inv h
  refine SW.it 28 H [0, 2, 3] (fun y1 => [(0, .pin v 3 (List.map encImage y1.1)), (2, vI y1.2.1), (3, vI y1.2.2)]) (fun v7 e s => (e = .exit 0 ∧ s = (sp 28 [(0, .pin v 3 (List.map encImage v7))] H))) hit (by kernel_rfl) (fun y1 o h => ?_) ?_
  · unfold slices_Reverse_l1 at h
    refine SW.seq <| SW.seq <| SW.regionK <| OWk.sg 28 H [] [0, 2, 3, 9] 3 [(0, .pin v 3 (List.map encImage y1.1)), (2, vI y1.2.1), (3, vI y1.2.2), (9, vB (decide (y1.2.1 < y1.2.2)))] (by kernel_rfl) <| OWk.done (by kernel_rfl) <| thenS_n ?_
    refine SW.condB (b := (decide (y1.2.1 < y1.2.2))) (by kernel_rfl) (fun hc => ?_) (fun hc => ?_)
    · replace h := bif_t hc h
      refine SW.skip <| thenS_n <| SW.seq <| SW.block <| SW.regionM [2, 3] [0, 1, 4, 5, 6, 7, 8, 9, 10, 11, 12] 13 [14, 15] 13 (by kernel_rfl) (by kernel_rfl) (by kernel_rfl) <| OBk.on 28 H (d := some 16) (s := .als 0) [0, 2, 3, 16] [(0, .pin v 3 (List.map encImage y1.1)), (2, vI y1.2.1), (3, vI y1.2.2), (16, .als 0)] (by kernel_rfl) (BAt.als (s := 0) (by kernel_rfl)) (by kernel_rfl) <| OBk.sg 28 H [] [0, 2, 3, 16, 17] 1 [(0, .pin v 3 (List.map encImage y1.1)), (2, vI y1.2.1), (3, vI y1.2.2), (16, .als 0), (17, vI y1.2.2)] (by kernel_rfl) (by kernel_rfl) <| OBk.on 28 H (d := some 14) (s := .als 0) [0, 2, 3, 14, 16, 17] [(0, .pin v 3 (List.map encImage y1.1)), (2, vI y1.2.1), (3, vI y1.2.2), (14, .als 0), (16, .als 0), (17, vI y1.2.2)] (by kernel_rfl) (BAt.als (s := 0) (by kernel_rfl)) (by kernel_rfl) <| OBk.sg 28 H [] [0, 2, 3, 14, 15, 16, 17, 18, 19] 3 [(0, .pin v 3 (List.map encImage y1.1)), (2, vI y1.2.1), (3, vI y1.2.2), (14, .als 0), (15, vI y1.2.1), (16, .als 0), (17, vI y1.2.2), (18, .lent (.slot 0) 3 (List.map encImage y1.1)), (19, vI y1.2.2)] (by kernel_rfl) (by kernel_rfl) ?_
      obtain ⟨x2, hx, h⟩ := bind_inv h
      refine OBk.on 28 H (d := some 20) (s := lendP (some (.slot 0)) (Go.Sh.D.cells (encImage x2))) [0, 2, 3, 14, 15, 16, 17, 20] [(0, .pin v 3 (List.map encImage y1.1)), (2, vI y1.2.1), (3, vI y1.2.2), (14, .als 0), (15, vI y1.2.1), (16, .als 0), (17, vI y1.2.2), (20, .lptr (.slot 0) [.str x2.Key, .bool x2.Has, .str x2.Text])] (by kernel_rfl) (BAt.index (n := 3) hx (by kernel_rfl)) (by kernel_rfl) <| OBk.sg 28 H [] [0, 2, 3, 14, 15, 16, 17, 21, 22, 23] 3 [(0, .pin v 3 (List.map encImage y1.1)), (2, vI y1.2.1), (3, vI y1.2.2), (14, .als 0), (15, vI y1.2.1), (16, .als 0), (17, vI y1.2.2), (21, .d (.agg [.str x2.Key, .bool x2.Has, .str x2.Text])), (22, .lent (.slot 0) 3 (List.map encImage y1.1)), (23, vI y1.2.1)] (by kernel_rfl) (by kernel_rfl) ?_
      obtain ⟨x3, hx, h⟩ := bind_inv h
      refine OBk.on 28 H (d := some 24) (s := lendP (some (.slot 0)) (Go.Sh.D.cells (encImage x3))) [0, 2, 3, 14, 15, 16, 17, 21, 24] [(0, .pin v 3 (List.map encImage y1.1)), (2, vI y1.2.1), (3, vI y1.2.2), (14, .als 0), (15, vI y1.2.1), (16, .als 0), (17, vI y1.2.2), (21, .d (.agg [.str x2.Key, .bool x2.Has, .str x2.Text])), (24, .lptr (.slot 0) [.str x3.Key, .bool x3.Has, .str x3.Text])] (by kernel_rfl) (BAt.index (n := 3) hx (by kernel_rfl)) (by kernel_rfl) <| OBk.sg 28 H [] [0, 2, 3, 14, 15, 16, 17, 21, 25] 1 [(0, .pin v 3 (List.map encImage y1.1)), (2, vI y1.2.1), (3, vI y1.2.2), (14, .als 0), (15, vI y1.2.1), (16, .als 0), (17, vI y1.2.2), (21, .d (.agg [.str x2.Key, .bool x2.Has, .str x2.Text])), (25, .d (.agg [.str x3.Key, .bool x3.Has, .str x3.Text]))] (by kernel_rfl) (by kernel_rfl) ?_
      obtain ⟨x4, hx, h⟩ := bind_inv h
      refine OBk.on 28 H (d := some 26) (s := .ep 0 3 (Int.toNat y1.2.1)) [0, 2, 3, 16, 17, 21, 25, 26] [(0, .pin v 3 (List.map encImage y1.1)), (2, vI y1.2.1), (3, vI y1.2.2), (16, .als 0), (17, vI y1.2.2), (21, .d (.agg [.str x2.Key, .bool x2.Has, .str x2.Text])), (25, .d (.agg [.str x3.Key, .bool x3.Has, .str x3.Text])), (26, .ep 0 3 (Int.toNat y1.2.1))] (by kernel_rfl) (BAt.ep (enc := encImage) (xs := y1.1) hx (by kernel_rfl)) (by kernel_rfl) <| OBk.done (by kernel_rfl) ?_
      obtain ⟨hk, h⟩ := chk_inv h
      refine OWk.sep (s := 0) (n := 3) (j := (Int.toNat y1.2.1)) (enc := encImage) (xs := y1.1) (x := x2) (p := (some v)) 28 H [0, 2, 3, 16, 17, 25] [(0, .pin v 3 (List.map encImage (List.set y1.1 (Int.toNat y1.2.1) x2))), (2, vI y1.2.1), (3, vI y1.2.2), (16, .als 0), (17, vI y1.2.2), (25, .d (.agg [.str x3.Key, .bool x3.Has, .str x3.Text]))] hk (by kernel_rfl) (by kernel_rfl) ?_
      obtain ⟨x5, hx, h⟩ := bind_inv h
      refine OWk.on 28 H (d := some 27) (s := .ep 0 3 (Int.toNat y1.2.2)) [0, 2, 3, 25, 27] [(0, .pin v 3 (List.map encImage (List.set y1.1 (Int.toNat y1.2.1) x2))), (2, vI y1.2.1), (3, vI y1.2.2), (25, .d (.agg [.str x3.Key, .bool x3.Has, .str x3.Text])), (27, .ep 0 3 (Int.toNat y1.2.2))] (BAt.ep (enc := encImage) (xs := (List.set y1.1 (Int.toNat y1.2.1) x2)) hx (by kernel_rfl)) (by kernel_rfl) ?_
      obtain ⟨hk, h⟩ := chk_inv h
      refine OWk.sep (s := 0) (n := 3) (j := (Int.toNat y1.2.2)) (enc := encImage) (xs := (List.set y1.1 (Int.toNat y1.2.1) x2)) (x := x3) (p := (some v)) 28 H [0, 2, 3] [(0, .pin v 3 (List.map encImage (List.set (List.set y1.1 (Int.toNat y1.2.1) x2) (Int.toNat y1.2.2) x3))), (2, vI y1.2.1), (3, vI y1.2.2)] hk (by kernel_rfl) (by kernel_rfl) <| OWk.done (by kernel_rfl) <| blockS_n <| thenS_n <| SW.regionK <| OWk.sg 28 H [] [0, 2, 3] 6 [(0, .pin v 3 (List.map encImage (List.set (List.set y1.1 (Int.toNat y1.2.1) x2) (Int.toNat y1.2.2) x3))), (2, vI (IntKind.wrap .i64 (y1.2.1 + 1))), (3, vI (IntKind.wrap .i64 (y1.2.2 - 1)))] (by kernel_rfl) <| OWk.done (by kernel_rfl) ?_
      cases h
      exact ⟨((List.set (List.set y1.1 (Int.toNat y1.2.1) x2) (Int.toNat y1.2.2) x3), (IntKind.wrap .i64 (y1.2.1 + 1)), (IntKind.wrap .i64 (y1.2.2 - 1))), rfl, by kernel_rfl⟩
    · replace h := bif_f hc h
      refine SW.kp 28 H [0] [(0, .pin v 3 (List.map encImage y1.1))] (by kernel_rfl) <| SW.exit <| thenS_e ?_
      cases h
      refine thenS_e ?_
      exact ⟨_, rfl, ⟨rfl, rfl⟩⟩
  · rintro _ _ ⟨rfl, rfl⟩
    refine blockS_hit ?_
    cases h
    exact ⟨.inl rfl, by kernel_rfl, rfl⟩

theorem encImage_np (x : Image) : noPtr (encImage x) = true := by simp [encImage, noPtr, noPtrs]

def j_Redo_l1 (fuel : Nat) (p0 : (List Note)) (p1 : Int) (q4 : (Hp × Nat)) (y5 : (List Image) × Int × Hp) : Option (((List Image) × Int × Hp) ⊕ ((List Image) × Hp)) :=
  bif (decide (y5.2.1 ≥ p1)) then
    (idx p0 y5.2.1).bind fun x6 =>
    letJ (fun (j7 : Bool) =>
      bif j7 then
        (hMput (kI .i64) cB y5.2.2 (some q4.2) x6.Unit true).bind fun H9 =>
        some (.inl (y5.1, (IntKind.wrap .i64 (y5.2.1 - 1)), H9))
      else
        letJ (fun (j10 : Bool) =>
          bif j10 then
            (hMput (kI .i64) cB y5.2.2 (some q4.2) x6.Unit false).bind fun H12 =>
            some (.inl (y5.1, (IntKind.wrap .i64 (y5.2.1 - 1)), H12))
          else
            bif (x6.Kind == 3) then
              (hLook (kI .i64) cB y5.2.2 (some q4.2) x6.Unit).bind fun q13 =>
              bif (q13.getD false) then
                chk (decide ((y5.1 ++ [(⟨x6.Key, x6.Has, x6.Text⟩ : Image)]).length ≤ room)) <|
                some (.inl ((y5.1 ++ [(⟨x6.Key, x6.Has, x6.Text⟩ : Image)]), (IntKind.wrap .i64 (y5.2.1 - 1)), y5.2.2))
              else
                some (.inl (y5.1, (IntKind.wrap .i64 (y5.2.1 - 1)), y5.2.2))
            else
              some (.inl (y5.1, (IntKind.wrap .i64 (y5.2.1 - 1)), y5.2.2))) fun jp11 =>
        bif (x6.Kind == 7) then
          jp11 true
        else
          jp11 (x6.Kind == 1)) fun jp8 =>
    bif (x6.Kind == 4) then
      jp8 true
    else
      jp8 (x6.Kind == 5)
  else
    some (.inr (y5.1, y5.2.2))

noncomputable def j_Redo (fuel : Nat) (p0 : (List Note)) (p1 : Int) : Option ((List Image) × Int) :=
  (j_right fuel p0).bind fun r1 =>
  bif (r1 != 0) then
    some (([] : List Image), r1)
  else
    letJ (fun (j2 : Bool) =>
      bif j2 then
        some (([] : List Image), 7)
      else
        (hNew [] (.map [])).bind fun q4 =>
        (iter (j_Redo_l1 fuel p0 p1 q4) fuel (([] : List Image), (IntKind.wrap .i64 ((p0.length : Int) - 1)), q4.1)).bind fun v15 =>
        (slices_Reverse fuel v15.1).bind fun r16 =>
        some (r16, 0)) fun jp3 =>
    bif (decide (p1 < 0)) then
      jp3 true
    else
      jp3 (decide (p1 > (p0.length : Int)))

theorem j_Redo_ok {fuel : Nat} {p0 : (List Note)} {p1 : Int} {r : (List Image) × Int} (h : j_Redo fuel p0 p1 = some r) : PC Try.prog 18 [.d (.list 5 (List.map encNote p0)), vI p1] (.tup [.own 3 (List.map encImage r.1), vI r.2]) := by
  refine PC.of_localSW Try.func18 rfl (by simp [noPtrSV, noPtr, noPtrs, vI, vB, vS, noPtrs_map (f := encNote) encNote_np]) (by simp [noPtrSV, noPtr, noPtrs, vI, vB, vS, noPtrs_map (f := encImage) encImage_np]) ?_
  unfold j_Redo at h
  refine SW.kp 70 [] [0, 1] [(0, .d (.list 5 (List.map encNote p0))), (1, vI p1)] (by kernel_rfl) <| SW.seq <| SW.regionK <| OWk.sg 70 [] [] [0, 1] 2 [(0, .d (.list 5 (List.map encNote p0))), (1, vI p1)] (by kernel_rfl) <| OWk.done (by kernel_rfl) <| thenS_n <| SW.seq <| SW.seq <| SW.regionK <| OWk.sg 70 [] [] [0, 1, 11] 1 [(0, .d (.list 5 (List.map encNote p0))), (1, vI p1), (11, .d (.list 5 (List.map encNote p0)))] (by kernel_rfl) ?_
  obtain ⟨r1, hr, h⟩ := bind_inv h
  refine OWk.cl 70 [] (d := some 12) (ls := []) (gs := []) [] [0, 1, 12] [(0, .d (.list 5 (List.map encNote p0))), (1, vI p1), (12, vI r1)] (j_right_ok hr) (by kernel_rfl) (by kernel_rfl) (by kernel_rfl) <| OWk.sg 70 [] [] [0, 1, 6] 1 [(0, .d (.list 5 (List.map encNote p0))), (1, vI p1), (6, vI r1)] (by kernel_rfl) <| OWk.done (by kernel_rfl) <| thenS_n <| SW.seq <| SW.regionK <| OWk.sg 70 [] [] [0, 1, 6, 14] 2 [(0, .d (.list 5 (List.map encNote p0))), (1, vI p1), (6, vI r1), (14, vB (r1 != 0))] (by kernel_rfl) <| OWk.done (by kernel_rfl) <| thenS_n ?_
  refine SW.condB (b := (r1 != 0)) (by kernel_rfl) (fun hc => ?_) (fun hc => ?_)
  · replace h := bif_t hc h
    refine SW.seq <| SW.regionK <| OWk.sg 70 [] [] [4, 5] 3 [(4, .own 3 (List.map encImage ([] : List Image))), (5, vI r1)] (by kernel_rfl) <| OWk.done (by kernel_rfl) <| thenS_n <| SW.ret <| thenS_r ?_
    cases h
    exact EndL.ret [] (by kernel_rfl)
  · replace h := bif_f hc h
    refine SW.skip <| thenS_n <| SW.seq ?_
    obtain ⟨jp3, hjjp3, h⟩ := letJ_inv h
    refine SW.jn 70 [] [0, 1, 23] (fun (j2 : Bool) => [(0, .d (.list 5 (List.map encNote p0))), (1, vI p1), (23, vB j2)]) (fun v => jp3 v = some r) (fun j2 h => ?_) ?_
    · rw [hjjp3] at h
      refine SW.condB (b := j2) (by kernel_rfl) (fun hc => ?_) (fun hc => ?_)
      · replace h := bif_t hc h
        refine SW.seq <| SW.regionK <| OWk.sg 70 [] [] [4, 5] 2 [(4, .own 3 (List.map encImage ([] : List Image))), (5, vI 7)] (by kernel_rfl) <| OWk.done (by kernel_rfl) <| thenS_n <| SW.ret <| thenS_r ?_
        cases h
        exact EndL.ret [] (by kernel_rfl)
      · replace h := bif_f hc h
        refine SW.skip <| thenS_n <| SW.seq <| SW.regionK <| OWk.sg 70 [] [] [0, 1, 7] 1 [(0, .d (.list 5 (List.map encNote p0))), (1, vI p1), (7, .own 3 (List.map encImage ([] : List Image)))] (by kernel_rfl) <| OWk.done (by kernel_rfl) <| thenS_n <| SW.seq <| SW.regionK ?_
        obtain ⟨q4, hq, h⟩ := bind_inv h
        refine OWk.hnew 70 q4.1 (d := some 24) (b := true) [] [0, 1, 7, 24] [(0, .d (.list 5 (List.map encNote p0))), (1, vI p1), (7, .own 3 (List.map encImage ([] : List Image))), (24, .d (.map q4.2))] hq (by kernel_rfl) rfl (by kernel_rfl) <| OWk.sg 70 q4.1 [] [0, 1, 7, 8] 1 [(0, .d (.list 5 (List.map encNote p0))), (1, vI p1), (7, .own 3 (List.map encImage ([] : List Image))), (8, .d (.map q4.2))] (by kernel_rfl) <| OWk.done (by kernel_rfl) <| thenS_n <| SW.seq <| SW.seq <| SW.regionK <| OWk.sg 70 q4.1 [] [0, 1, 7, 8, 25] 1 [(0, .d (.list 5 (List.map encNote p0))), (1, vI p1), (7, .own 3 (List.map encImage ([] : List Image))), (8, .d (.map q4.2)), (25, .d (.list 5 (List.map encNote p0)))] (by kernel_rfl) <| OWk.on 70 q4.1 (d := some 26) [0, 1, 7, 8, 26] [(0, .d (.list 5 (List.map encNote p0))), (1, vI p1), (7, .own 3 (List.map encImage ([] : List Image))), (8, .d (.map q4.2)), (26, vI (p0.length : Int))] (BAt.len (enc := encNote) (xs := p0) (by kernel_rfl)) (by kernel_rfl) <| OWk.sg 70 q4.1 [] [0, 1, 7, 8, 9] 2 [(0, .d (.list 5 (List.map encNote p0))), (1, vI p1), (7, .own 3 (List.map encImage ([] : List Image))), (8, .d (.map q4.2)), (9, vI (IntKind.wrap .i64 ((p0.length : Int) - 1)))] (by kernel_rfl) <| OWk.done (by kernel_rfl) <| thenS_n <| SW.block ?_
        obtain ⟨v15, hit, h⟩ := bind_inv h
        refine SW.itH 70 [0, 1, 7, 8, 9] (fun y5 => [(0, .d (.list 5 (List.map encNote p0))), (1, vI p1), (7, .own 3 (List.map encImage y5.1)), (8, .d (.map q4.2)), (9, vI y5.2.1)]) (fun y5 => y5.2.2) (fun v15 e s => (e = .exit 0 ∧ s = (sp 70 [(7, .own 3 (List.map encImage v15.1))] v15.2))) hit (by kernel_rfl) (fun y5 o h => ?_) ?_
        · unfold j_Redo_l1 at h
          refine SW.seq <| SW.seq <| SW.regionK <| OWk.sg 70 y5.2.2 [] [0, 1, 7, 8, 9, 30] 3 [(0, .d (.list 5 (List.map encNote p0))), (1, vI p1), (7, .own 3 (List.map encImage y5.1)), (8, .d (.map q4.2)), (9, vI y5.2.1), (30, vB (decide (y5.2.1 ≥ p1)))] (by kernel_rfl) <| OWk.done (by kernel_rfl) <| thenS_n ?_
          refine SW.condB (b := (decide (y5.2.1 ≥ p1))) (by kernel_rfl) (fun hc => ?_) (fun hc => ?_)
          · replace h := bif_t hc h
            refine SW.skip <| thenS_n <| SW.seq <| SW.block <| SW.seq <| SW.regionK <| OWk.sg 70 y5.2.2 [] [0, 1, 7, 8, 9, 33, 34] 2 [(0, .d (.list 5 (List.map encNote p0))), (1, vI p1), (7, .own 3 (List.map encImage y5.1)), (8, .d (.map q4.2)), (9, vI y5.2.1), (33, .d (.list 5 (List.map encNote p0))), (34, vI y5.2.1)] (by kernel_rfl) ?_
            obtain ⟨x6, hx, h⟩ := bind_inv h
            refine OWk.on 70 y5.2.2 (d := some 35) (s := lendP none (Go.Sh.D.cells (encNote x6))) [0, 1, 7, 8, 9, 35] [(0, .d (.list 5 (List.map encNote p0))), (1, vI p1), (7, .own 3 (List.map encImage y5.1)), (8, .d (.map q4.2)), (9, vI y5.2.1), (35, .d (.dptr [.int .i64 x6.Kind, .int .i64 x6.Unit, .str x6.Key, .bool x6.Has, .str x6.Text]))] (BAt.index (n := 5) hx (by kernel_rfl)) (by kernel_rfl) <| OWk.sg 70 y5.2.2 [] [0, 1, 7, 8, 9, 10] 3 [(0, .d (.list 5 (List.map encNote p0))), (1, vI p1), (7, .own 3 (List.map encImage y5.1)), (8, .d (.map q4.2)), (9, vI y5.2.1), (10, .box [vI x6.Kind, vI x6.Unit, vS x6.Key, vB x6.Has, vS x6.Text])] (by kernel_rfl) <| OWk.done (by kernel_rfl) <| thenS_n <| SW.seq <| SW.regionK <| OWk.sg 70 y5.2.2 [] [0, 1, 7, 8, 9, 10, 38] 2 [(0, .d (.list 5 (List.map encNote p0))), (1, vI p1), (7, .own 3 (List.map encImage y5.1)), (8, .d (.map q4.2)), (9, vI y5.2.1), (10, .box [vI x6.Kind, vI x6.Unit, vS x6.Key, vB x6.Has, vS x6.Text]), (38, vI x6.Kind)] (by kernel_rfl) <| OWk.done (by kernel_rfl) <| thenS_n <| SW.block ?_
            obtain ⟨jp8, hjjp8, h⟩ := letJ_inv h
            refine SW.jn 70 y5.2.2 [0, 1, 7, 8, 9, 10, 38, 39] (fun (j7 : Bool) => [(0, .d (.list 5 (List.map encNote p0))), (1, vI p1), (7, .own 3 (List.map encImage y5.1)), (8, .d (.map q4.2)), (9, vI y5.2.1), (10, .box [vI x6.Kind, vI x6.Unit, vS x6.Key, vB x6.Has, vS x6.Text]), (38, vI x6.Kind), (39, vB j7)]) (fun v => jp8 v = some o) (fun j7 h => ?_) ?_
            · rw [hjjp8] at h
              refine SW.condB (b := j7) (by kernel_rfl) (fun hc => ?_) (fun hc => ?_)
              · replace h := bif_t hc h
                refine SW.regionK <| OWk.sg 70 y5.2.2 [] [0, 1, 7, 8, 9, 42, 44] 3 [(0, .d (.list 5 (List.map encNote p0))), (1, vI p1), (7, .own 3 (List.map encImage y5.1)), (8, .d (.map q4.2)), (9, vI y5.2.1), (42, .d (.map q4.2)), (44, vI x6.Unit)] (by kernel_rfl) ?_
                obtain ⟨H9, hx, h⟩ := bind_inv h
                refine OWk.mput 70 H9 (kc := (kI .i64)) (v := cB) (mm := (some q4.2)) (key := x6.Unit) (y := true) [0, 1, 7, 8, 9] [(0, .d (.list 5 (List.map encNote p0))), (1, vI p1), (7, .own 3 (List.map encImage y5.1)), (8, .d (.map q4.2)), (9, vI y5.2.1)] hx (by kernel_rfl) (by kernel_rfl) <| OWk.done (by kernel_rfl) <| blockS_n <| blockS_n <| thenS_n <| SW.regionK <| OWk.sg 70 H9 [] [0, 1, 7, 8, 9] 3 [(0, .d (.list 5 (List.map encNote p0))), (1, vI p1), (7, .own 3 (List.map encImage y5.1)), (8, .d (.map q4.2)), (9, vI (IntKind.wrap .i64 (y5.2.1 - 1)))] (by kernel_rfl) <| OWk.done (by kernel_rfl) ?_
                cases h
                exact ⟨(y5.1, (IntKind.wrap .i64 (y5.2.1 - 1)), H9), rfl, by kernel_rfl⟩
              · replace h := bif_f hc h
                obtain ⟨jp11, hjjp11, h⟩ := letJ_inv h
                refine SW.jn 70 y5.2.2 [0, 1, 7, 8, 9, 10, 38, 45] (fun (j10 : Bool) => [(0, .d (.list 5 (List.map encNote p0))), (1, vI p1), (7, .own 3 (List.map encImage y5.1)), (8, .d (.map q4.2)), (9, vI y5.2.1), (10, .box [vI x6.Kind, vI x6.Unit, vS x6.Key, vB x6.Has, vS x6.Text]), (38, vI x6.Kind), (45, vB j10)]) (fun v => jp11 v = some o) (fun j10 h => ?_) ?_
                · rw [hjjp11] at h
                  refine SW.condB (b := j10) (by kernel_rfl) (fun hc => ?_) (fun hc => ?_)
                  · replace h := bif_t hc h
                    refine SW.regionK <| OWk.sg 70 y5.2.2 [] [0, 1, 7, 8, 9, 48, 50] 3 [(0, .d (.list 5 (List.map encNote p0))), (1, vI p1), (7, .own 3 (List.map encImage y5.1)), (8, .d (.map q4.2)), (9, vI y5.2.1), (48, .d (.map q4.2)), (50, vI x6.Unit)] (by kernel_rfl) ?_
                    obtain ⟨H12, hx, h⟩ := bind_inv h
                    refine OWk.mput 70 H12 (kc := (kI .i64)) (v := cB) (mm := (some q4.2)) (key := x6.Unit) (y := false) [0, 1, 7, 8, 9] [(0, .d (.list 5 (List.map encNote p0))), (1, vI p1), (7, .own 3 (List.map encImage y5.1)), (8, .d (.map q4.2)), (9, vI y5.2.1)] hx (by kernel_rfl) (by kernel_rfl) <| OWk.done (by kernel_rfl) <| blockS_n <| blockS_n <| thenS_n <| SW.regionK <| OWk.sg 70 H12 [] [0, 1, 7, 8, 9] 3 [(0, .d (.list 5 (List.map encNote p0))), (1, vI p1), (7, .own 3 (List.map encImage y5.1)), (8, .d (.map q4.2)), (9, vI (IntKind.wrap .i64 (y5.2.1 - 1)))] (by kernel_rfl) <| OWk.done (by kernel_rfl) ?_
                    cases h
                    exact ⟨(y5.1, (IntKind.wrap .i64 (y5.2.1 - 1)), H12), rfl, by kernel_rfl⟩
                  · replace h := bif_f hc h
                    refine SW.seq <| SW.regionK <| OWk.sg 70 y5.2.2 [] [0, 1, 7, 8, 9, 10, 51] 2 [(0, .d (.list 5 (List.map encNote p0))), (1, vI p1), (7, .own 3 (List.map encImage y5.1)), (8, .d (.map q4.2)), (9, vI y5.2.1), (10, .box [vI x6.Kind, vI x6.Unit, vS x6.Key, vB x6.Has, vS x6.Text]), (51, vB (x6.Kind == 3))] (by kernel_rfl) <| OWk.done (by kernel_rfl) <| thenS_n ?_
                    refine SW.condB (b := (x6.Kind == 3)) (by kernel_rfl) (fun hc => ?_) (fun hc => ?_)
                    · replace h := bif_t hc h
                      refine SW.seq <| SW.regionK <| OWk.sg 70 y5.2.2 [] [0, 1, 7, 8, 9, 10, 53, 55] 3 [(0, .d (.list 5 (List.map encNote p0))), (1, vI p1), (7, .own 3 (List.map encImage y5.1)), (8, .d (.map q4.2)), (9, vI y5.2.1), (10, .box [vI x6.Kind, vI x6.Unit, vS x6.Key, vB x6.Has, vS x6.Text]), (53, .d (.map q4.2)), (55, vI x6.Unit)] (by kernel_rfl) ?_
                      obtain ⟨q13, hq, h⟩ := bind_inv h
                      refine OWk.on 70 y5.2.2 (d := some 56) [0, 1, 7, 8, 9, 10, 56] [(0, .d (.list 5 (List.map encNote p0))), (1, vI p1), (7, .own 3 (List.map encImage y5.1)), (8, .d (.map q4.2)), (9, vI y5.2.1), (10, .box [vI x6.Kind, vI x6.Unit, vS x6.Key, vB x6.Has, vS x6.Text]), (56, vB (q13.getD false))] (BAt.look (kc := (kI .i64)) (v := cB) (ok := false) (mm := (some q4.2)) (key := x6.Unit) (z := false) hq (by kernel_rfl)) (by kernel_rfl) <| OWk.done (by kernel_rfl) <| thenS_n ?_
                      refine SW.condB (b := (q13.getD false)) (by kernel_rfl) (fun hc => ?_) (fun hc => ?_)
                      · replace h := bif_t hc h
                        refine SW.regionK <| OWk.sg 70 y5.2.2 [57] [0, 1, 8, 9, 57, 65] 9 [(0, .d (.list 5 (List.map encNote p0))), (1, vI p1), (8, .d (.map q4.2)), (9, vI y5.2.1), (57, .own 3 (List.map encImage y5.1)), (65, .own 3 (List.map encImage [(⟨x6.Key, x6.Has, x6.Text⟩ : Image)]))] (by kernel_rfl) ?_
                        obtain ⟨hk, h⟩ := chk_inv h
                        refine OWk.app 70 y5.2.2 (s := 57) (d := 66) (w := 3) [0, 1, 8, 9, 66] (zs := List.map encImage (y5.1 ++ [(⟨x6.Key, x6.Has, x6.Text⟩ : Image)])) [(0, .d (.list 5 (List.map encNote p0))), (1, vI p1), (8, .d (.map q4.2)), (9, vI y5.2.1), (66, .own 3 (List.map encImage (y5.1 ++ [(⟨x6.Key, x6.Has, x6.Text⟩ : Image)])))] (ys := (List.map encImage [(⟨x6.Key, x6.Has, x6.Text⟩ : Image)])) (by kernel_rfl) (map_append') (room_map hk) (by kernel_rfl) <| OWk.sg 70 y5.2.2 [57] [0, 1, 7, 8, 9] 1 [(0, .d (.list 5 (List.map encNote p0))), (1, vI p1), (7, .own 3 (List.map encImage (y5.1 ++ [(⟨x6.Key, x6.Has, x6.Text⟩ : Image)]))), (8, .d (.map q4.2)), (9, vI y5.2.1)] (by kernel_rfl) <| OWk.done (by kernel_rfl) <| blockS_n <| blockS_n <| thenS_n <| SW.regionK <| OWk.sg 70 y5.2.2 [] [0, 1, 7, 8, 9] 3 [(0, .d (.list 5 (List.map encNote p0))), (1, vI p1), (7, .own 3 (List.map encImage (y5.1 ++ [(⟨x6.Key, x6.Has, x6.Text⟩ : Image)]))), (8, .d (.map q4.2)), (9, vI (IntKind.wrap .i64 (y5.2.1 - 1)))] (by kernel_rfl) <| OWk.done (by kernel_rfl) ?_
                        cases h
                        exact ⟨((y5.1 ++ [(⟨x6.Key, x6.Has, x6.Text⟩ : Image)]), (IntKind.wrap .i64 (y5.2.1 - 1)), y5.2.2), rfl, by kernel_rfl⟩
                      · replace h := bif_f hc h
                        refine SW.skip <| blockS_n <| blockS_n <| thenS_n <| SW.regionK <| OWk.sg 70 y5.2.2 [] [0, 1, 7, 8, 9] 3 [(0, .d (.list 5 (List.map encNote p0))), (1, vI p1), (7, .own 3 (List.map encImage y5.1)), (8, .d (.map q4.2)), (9, vI (IntKind.wrap .i64 (y5.2.1 - 1)))] (by kernel_rfl) <| OWk.done (by kernel_rfl) ?_
                        cases h
                        exact ⟨(y5.1, (IntKind.wrap .i64 (y5.2.1 - 1)), y5.2.2), rfl, by kernel_rfl⟩
                    · replace h := bif_f hc h
                      refine SW.skip <| blockS_n <| blockS_n <| thenS_n <| SW.regionK <| OWk.sg 70 y5.2.2 [] [0, 1, 7, 8, 9] 3 [(0, .d (.list 5 (List.map encNote p0))), (1, vI p1), (7, .own 3 (List.map encImage y5.1)), (8, .d (.map q4.2)), (9, vI (IntKind.wrap .i64 (y5.2.1 - 1)))] (by kernel_rfl) <| OWk.done (by kernel_rfl) ?_
                      cases h
                      exact ⟨(y5.1, (IntKind.wrap .i64 (y5.2.1 - 1)), y5.2.2), rfl, by kernel_rfl⟩
                · refine SW.seq <| SW.regionK <| OWk.sg 70 y5.2.2 [] [0, 1, 7, 8, 9, 10, 38, 45] 2 [(0, .d (.list 5 (List.map encNote p0))), (1, vI p1), (7, .own 3 (List.map encImage y5.1)), (8, .d (.map q4.2)), (9, vI y5.2.1), (10, .box [vI x6.Kind, vI x6.Unit, vS x6.Key, vB x6.Has, vS x6.Text]), (38, vI x6.Kind), (45, vB (x6.Kind == 7))] (by kernel_rfl) <| OWk.done (by kernel_rfl) <| thenS_n ?_
                  refine SW.case (x6.Kind == 7) (fun b => (sp 70 [(0, .d (.list 5 (List.map encNote p0))), (1, vI p1), (7, .own 3 (List.map encImage y5.1)), (8, .d (.map q4.2)), (9, vI y5.2.1), (10, .box [vI x6.Kind, vI x6.Unit, vS x6.Key, vB x6.Has, vS x6.Text]), (38, vI x6.Kind), (45, vB b)] y5.2.2)) (by kernel_rfl) (fun hc => ?_) (fun hc => ?_)
                  · replace h := bif_t hc h
                    refine SW.condT (by kernel_rfl) <| SW.skip ?_
                    exact ⟨true, [], by kernel_rfl, h⟩
                  · replace h := bif_f hc h
                    refine SW.condF (by kernel_rfl) <| SW.regionK <| OWk.sg 70 y5.2.2 [] [0, 1, 7, 8, 9, 10, 38, 45] 2 [(0, .d (.list 5 (List.map encNote p0))), (1, vI p1), (7, .own 3 (List.map encImage y5.1)), (8, .d (.map q4.2)), (9, vI y5.2.1), (10, .box [vI x6.Kind, vI x6.Unit, vS x6.Key, vB x6.Has, vS x6.Text]), (38, vI x6.Kind), (45, vB (x6.Kind == 1))] (by kernel_rfl) <| OWk.done (by kernel_rfl) ?_
                    exact ⟨(x6.Kind == 1), [], by kernel_rfl, h⟩
            · refine SW.seq <| SW.regionK <| OWk.sg 70 y5.2.2 [] [0, 1, 7, 8, 9, 10, 38, 39] 2 [(0, .d (.list 5 (List.map encNote p0))), (1, vI p1), (7, .own 3 (List.map encImage y5.1)), (8, .d (.map q4.2)), (9, vI y5.2.1), (10, .box [vI x6.Kind, vI x6.Unit, vS x6.Key, vB x6.Has, vS x6.Text]), (38, vI x6.Kind), (39, vB (x6.Kind == 4))] (by kernel_rfl) <| OWk.done (by kernel_rfl) <| thenS_n ?_
              refine SW.case (x6.Kind == 4) (fun b => (sp 70 [(0, .d (.list 5 (List.map encNote p0))), (1, vI p1), (7, .own 3 (List.map encImage y5.1)), (8, .d (.map q4.2)), (9, vI y5.2.1), (10, .box [vI x6.Kind, vI x6.Unit, vS x6.Key, vB x6.Has, vS x6.Text]), (38, vI x6.Kind), (39, vB b)] y5.2.2)) (by kernel_rfl) (fun hc => ?_) (fun hc => ?_)
              · replace h := bif_t hc h
                refine SW.condT (by kernel_rfl) <| SW.skip ?_
                exact ⟨true, [], by kernel_rfl, h⟩
              · replace h := bif_f hc h
                refine SW.condF (by kernel_rfl) <| SW.regionK <| OWk.sg 70 y5.2.2 [] [0, 1, 7, 8, 9, 10, 38, 39] 2 [(0, .d (.list 5 (List.map encNote p0))), (1, vI p1), (7, .own 3 (List.map encImage y5.1)), (8, .d (.map q4.2)), (9, vI y5.2.1), (10, .box [vI x6.Kind, vI x6.Unit, vS x6.Key, vB x6.Has, vS x6.Text]), (38, vI x6.Kind), (39, vB (x6.Kind == 5))] (by kernel_rfl) <| OWk.done (by kernel_rfl) ?_
                exact ⟨(x6.Kind == 5), [], by kernel_rfl, h⟩
          · replace h := bif_f hc h
            refine SW.kp 70 y5.2.2 [7] [(7, .own 3 (List.map encImage y5.1))] (by kernel_rfl) <| SW.exit <| thenS_e ?_
            cases h
            refine thenS_e ?_
            exact ⟨_, rfl, ⟨rfl, rfl⟩⟩
        · rintro _ _ ⟨rfl, rfl⟩
          refine blockS_hit <| thenS_n <| SW.seq <| SW.regionK <| OWk.on 70 v15.2 (d := some 67) (s := .als 7) [7, 67] [(7, .own 3 (List.map encImage v15.1)), (67, .als 7)] (BAt.als (s := 7) (by kernel_rfl)) (by kernel_rfl) ?_
          obtain ⟨r16, hr, h⟩ := bind_inv h
          refine OWk.ic (s := 7) (p := none) (d := some 68) 70 v15.2 [7] [(7, .own 3 (List.map encImage r16))] (slices_Reverse_ok hr) (by kernel_rfl) (by kernel_rfl) <| OWk.done (by kernel_rfl) <| thenS_n <| SW.seq <| SW.regionK <| OWk.sg 70 v15.2 [69] [4, 5] 3 [(4, .own 3 (List.map encImage r16)), (5, vI 0)] (by kernel_rfl) <| OWk.done (by kernel_rfl) <| thenS_n <| SW.ret ?_
          cases h
          exact EndL.ret [] (by kernel_rfl)
    · refine SW.regionK <| OWk.sg 70 [] [] [0, 1, 18] 3 [(0, .d (.list 5 (List.map encNote p0))), (1, vI p1), (18, vB (decide (p1 < 0)))] (by kernel_rfl) ?_
      refine OWk.case (decide (p1 < 0)) (fun b => (sp 70 [(0, .d (.list 5 (List.map encNote p0))), (1, vI p1), (18, vB b)] [])) (by kernel_rfl) (fun hc => ?_) (fun hc => ?_)
      · replace h := bif_t hc h
        refine OWk.sg 70 [] [] [0, 1, 23] 5 [(0, .d (.list 5 (List.map encNote p0))), (1, vI p1), (23, vB true)] (by kernel_rfl) <| OWk.done (by kernel_rfl) ?_
        exact ⟨true, [], by kernel_rfl, h⟩
      · replace h := bif_f hc h
        refine OWk.sg 70 [] [] [0, 1, 18, 19, 20] 2 [(0, .d (.list 5 (List.map encNote p0))), (1, vI p1), (18, vB false), (19, vI p1), (20, .d (.list 5 (List.map encNote p0)))] (by kernel_rfl) <| OWk.on 70 [] (d := some 21) [0, 1, 18, 19, 21] [(0, .d (.list 5 (List.map encNote p0))), (1, vI p1), (18, vB false), (19, vI p1), (21, vI (p0.length : Int))] (BAt.len (enc := encNote) (xs := p0) (by kernel_rfl)) (by kernel_rfl) <| OWk.sg 70 [] [] [0, 1, 23] 2 [(0, .d (.list 5 (List.map encNote p0))), (1, vI p1), (23, vB (decide (p1 > (p0.length : Int))))] (by kernel_rfl) <| OWk.done (by kernel_rfl) ?_
        exact ⟨(decide (p1 > (p0.length : Int))), [], by kernel_rfl, h⟩

def j_Apply_1 (fuel : Nat) (p0 : Image) : Option (Bool) :=
  (j_image fuel p0).bind fun r1 =>
  some (!r1)

theorem j_Apply_1_ok {fuel : Nat} {p0 : Image} {r : Bool} (h : j_Apply_1 fuel p0 = some r) : PC Try.prog 43 [.d (encImage p0)] (vB r) := by
  refine PC.of_SW Try.func43 rfl fun H => ?_
  unfold j_Apply_1 at h
  refine SW.kp 6 H [0] [(0, .d (.agg [.str p0.Key, .bool p0.Has, .str p0.Text]))] (by kernel_rfl) <| SW.seq <| SW.regionK <| OWk.sg 6 H [] [1] 2 [(1, .box [vS p0.Key, vB p0.Has, vS p0.Text])] (by kernel_rfl) <| OWk.done (by kernel_rfl) <| thenS_n <| SW.seq <| SW.regionK <| OWk.sg 6 H [] [3] 1 [(3, .d (.agg [.str p0.Key, .bool p0.Has, .str p0.Text]))] (by kernel_rfl) ?_
  obtain ⟨r1, hr, h⟩ := bind_inv h
  refine OWk.cl 6 H (d := some 4) (ls := []) (gs := []) [] [4] [(4, vB r1)] (j_image_ok hr) (by kernel_rfl) (by kernel_rfl) (by kernel_rfl) <| OWk.sg 6 H [] [2] 2 [(2, vB (!r1))] (by kernel_rfl) <| OWk.done (by kernel_rfl) <| thenS_n <| SW.ret ?_
  cases h
  exact EndQ.ret [] (by kernel_rfl) rfl

def slices_IndexFunc_43_l1 (fuel : Nat) (p0 : (List Image)) (y1 : Int) : Option ((Int) ⊕ ((Unit) ⊕ ((Int)))) :=
  bif (decide (y1 < (p0.length : Int))) then
    (idx p0 y1).bind fun x2 =>
    (j_Apply_1 fuel x2).bind fun r3 =>
    bif r3 then
      some (.inr (.inr y1))
    else
      some (.inl (IntKind.wrap .i64 (y1 + 1)))
  else
    some (.inr (.inl ()))

def slices_IndexFunc_43 (fuel : Nat) (p0 : (List Image)) : Option (Int) :=
  (iter (slices_IndexFunc_43_l1 fuel p0) fuel 0).bind (Sum.elim (fun v5 =>
    some (-1)) (fun r6 =>
    some r6))

theorem slices_IndexFunc_43_ok {fuel : Nat} {p0 : (List Image)} {r : Int} (h : slices_IndexFunc_43 fuel p0 = some r) : PC Try.prog 68 [.d (.list 3 (List.map encImage p0)), .d (.fn (.func 43) [] [])] (vI r) := by
  refine PC.of_SW Try.func68 rfl fun H => ?_
  unfold slices_IndexFunc_43 at h
  refine SW.kp 19 H [0, 1] [(0, .d (.list 3 (List.map encImage p0))), (1, .d (.fn (.func 43) [] []))] (by kernel_rfl) <| SW.seq <| SW.regionK <| OWk.sg 19 H [] [0, 1] 1 [(0, .d (.list 3 (List.map encImage p0))), (1, .d (.fn (.func 43) [] []))] (by kernel_rfl) <| OWk.done (by kernel_rfl) <| thenS_n <| SW.seq <| SW.seq <| SW.regionK <| OWk.sg 19 H [] [0, 1, 6] 1 [(0, .d (.list 3 (List.map encImage p0))), (1, .d (.fn (.func 43) [] [])), (6, .d (.list 3 (List.map encImage p0)))] (by kernel_rfl) <| OWk.on 19 H (d := some 7) [0, 1, 7] [(0, .d (.list 3 (List.map encImage p0))), (1, .d (.fn (.func 43) [] [])), (7, vI (p0.length : Int))] (BAt.len (enc := encImage) (xs := p0) (by kernel_rfl)) (by kernel_rfl) <| OWk.sg 19 H [] [0, 1, 7, 8] 1 [(0, .d (.list 3 (List.map encImage p0))), (1, .d (.fn (.func 43) [] [])), (7, vI (p0.length : Int)), (8, vI 0)] (by kernel_rfl) <| OWk.done (by kernel_rfl) <| thenS_n <| SW.block ?_
  obtain ⟨z4, hit, h⟩ := bind_inv h
  refine SW.it 19 H [0, 1, 7, 8] (fun y1 => [(0, .d (.list 3 (List.map encImage p0))), (1, .d (.fn (.func 43) [] [])), (7, vI (p0.length : Int)), (8, vI y1)]) (fun b e s => ((∃ v5, b = (.inl v5) ∧ (e = .exit 0 ∧ s = (sp 19 [] H))) ∨ (∃ r6, b = (.inr r6) ∧ (e = .ret ∧ EndQ Try.prog Try.f68.results.toList H (vI r6) .ret s)))) hit (by kernel_rfl) (fun y1 o h => ?_) ?_
  · unfold slices_IndexFunc_43_l1 at h
    refine SW.seq <| SW.regionK <| OWk.sg 19 H [] [0, 1, 7, 8, 9] 1 [(0, .d (.list 3 (List.map encImage p0))), (1, .d (.fn (.func 43) [] [])), (7, vI (p0.length : Int)), (8, vI y1), (9, vB (decide (y1 < (p0.length : Int))))] (by kernel_rfl) <| OWk.done (by kernel_rfl) <| thenS_n <| SW.seq ?_
    refine SW.condB (b := (decide (y1 < (p0.length : Int)))) (by kernel_rfl) (fun hc => ?_) (fun hc => ?_)
    · replace h := bif_t hc h
      refine SW.skip <| thenS_n <| SW.seq <| SW.block <| SW.seq <| SW.regionK <| OWk.sg 19 H [] [0, 1, 5, 7, 8] 2 [(0, .d (.list 3 (List.map encImage p0))), (1, .d (.fn (.func 43) [] [])), (5, vI y1), (7, vI (p0.length : Int)), (8, vI y1)] (by kernel_rfl) <| OWk.done (by kernel_rfl) <| thenS_n <| SW.seq <| SW.regionK <| OWk.sg 19 H [] [0, 1, 5, 7, 8, 11, 12, 13] 3 [(0, .d (.list 3 (List.map encImage p0))), (1, .d (.fn (.func 43) [] [])), (5, vI y1), (7, vI (p0.length : Int)), (8, vI y1), (11, .d (.fn (.func 43) [] [])), (12, .d (.list 3 (List.map encImage p0))), (13, vI y1)] (by kernel_rfl) ?_
      obtain ⟨x2, hx, h⟩ := bind_inv h
      refine OWk.on 19 H (d := some 14) (s := lendP none (Go.Sh.D.cells (encImage x2))) [0, 1, 5, 7, 8, 11, 14] [(0, .d (.list 3 (List.map encImage p0))), (1, .d (.fn (.func 43) [] [])), (5, vI y1), (7, vI (p0.length : Int)), (8, vI y1), (11, .d (.fn (.func 43) [] [])), (14, .d (.dptr [.str x2.Key, .bool x2.Has, .str x2.Text]))] (BAt.index (n := 3) hx (by kernel_rfl)) (by kernel_rfl) <| OWk.sg 19 H [] [0, 1, 5, 7, 8, 11, 15] 1 [(0, .d (.list 3 (List.map encImage p0))), (1, .d (.fn (.func 43) [] [])), (5, vI y1), (7, vI (p0.length : Int)), (8, vI y1), (11, .d (.fn (.func 43) [] [])), (15, .d (.agg [.str x2.Key, .bool x2.Has, .str x2.Text]))] (by kernel_rfl) ?_
      obtain ⟨r3, hr, h⟩ := bind_inv h
      refine OWk.cl 19 H (d := some 16) (ls := []) (gs := []) [] [0, 1, 5, 7, 8, 16] [(0, .d (.list 3 (List.map encImage p0))), (1, .d (.fn (.func 43) [] [])), (5, vI y1), (7, vI (p0.length : Int)), (8, vI y1), (16, vB r3)] (j_Apply_1_ok hr) (by kernel_rfl) (by kernel_rfl) (by kernel_rfl) <| OWk.done (by kernel_rfl) <| thenS_n ?_
      refine SW.condB (b := r3) (by kernel_rfl) (fun hc => ?_) (fun hc => ?_)
      · replace h := bif_t hc h
        refine SW.seq <| SW.regionK <| OWk.sg 19 H [] [4] 2 [(4, vI y1)] (by kernel_rfl) <| OWk.done (by kernel_rfl) <| thenS_n <| SW.ret <| blockS_r <| thenS_r ?_
        cases h
        refine thenS_r ?_
        exact ⟨_, rfl, .inr (⟨y1, rfl, rfl, EndQ.ret [] (by kernel_rfl) rfl⟩)⟩
      · replace h := bif_f hc h
        refine SW.skip <| blockS_n <| thenS_n <| SW.regionK <| OWk.sg 19 H [] [0, 1, 7, 8] 2 [(0, .d (.list 3 (List.map encImage p0))), (1, .d (.fn (.func 43) [] [])), (7, vI (p0.length : Int)), (8, vI (IntKind.wrap .i64 (y1 + 1)))] (by kernel_rfl) <| OWk.done (by kernel_rfl) ?_
        cases h
        exact ⟨(IntKind.wrap .i64 (y1 + 1)), rfl, by kernel_rfl⟩
    · replace h := bif_f hc h
      refine SW.kp 19 H [] [] (by kernel_rfl) <| SW.exit <| thenS_e ?_
      cases h
      refine thenS_e ?_
      exact ⟨_, rfl, .inl ⟨(), rfl, rfl, rfl⟩⟩
  · rintro _ _ (⟨v5, rfl, rfl, rfl⟩ | ⟨r6, rfl, rfl, hE⟩)
    · replace h := sum_l h
      refine blockS_hit <| thenS_n <| SW.seq <| SW.regionK <| OWk.sg 19 H [] [4] 1 [(4, vI (-1))] (by kernel_rfl) <| OWk.done (by kernel_rfl) <| thenS_n <| SW.ret ?_
      cases h
      exact EndQ.ret [] (by kernel_rfl) rfl
    · replace h := sum_r h
      refine blockS_r <| thenS_r ?_
      cases h
      exact hE

def slices_ContainsFunc_43 (fuel : Nat) (p0 : (List Image)) : Option (Bool) :=
  (slices_IndexFunc_43 fuel p0).bind fun r1 =>
  some (decide (r1 ≥ 0))

theorem slices_ContainsFunc_43_ok {fuel : Nat} {p0 : (List Image)} {r : Bool} (h : slices_ContainsFunc_43 fuel p0 = some r) : PC Try.prog 42 [.d (.list 3 (List.map encImage p0)), .d (.fn (.func 43) [] [])] (vB r) := by
  refine PC.of_SW Try.func42 rfl fun H => ?_
  unfold slices_ContainsFunc_43 at h
  refine SW.kp 9 H [0, 1] [(0, .d (.list 3 (List.map encImage p0))), (1, .d (.fn (.func 43) [] []))] (by kernel_rfl) <| SW.seq <| SW.regionK <| OWk.sg 9 H [] [0, 1] 1 [(0, .d (.list 3 (List.map encImage p0))), (1, .d (.fn (.func 43) [] []))] (by kernel_rfl) <| OWk.done (by kernel_rfl) <| thenS_n <| SW.seq <| SW.regionK <| OWk.sg 9 H [] [5, 6] 2 [(5, .d (.list 3 (List.map encImage p0))), (6, .d (.fn (.func 43) [] []))] (by kernel_rfl) ?_
  obtain ⟨r1, hr, h⟩ := bind_inv h
  refine OWk.cl 9 H (d := some 7) (ls := []) (gs := []) [] [7] [(7, vI r1)] (slices_IndexFunc_43_ok hr) (by kernel_rfl) (by kernel_rfl) (by kernel_rfl) <| OWk.sg 9 H [] [4] 2 [(4, vB (decide (r1 ≥ 0)))] (by kernel_rfl) <| OWk.done (by kernel_rfl) <| thenS_n <| SW.ret ?_
  cases h
  exact EndQ.ret [] (by kernel_rfl) rfl

def slices_Clone (fuel : Nat) (p0 : (List Image)) : Option ((List Image)) :=
  nilB p0 fun b1 =>
  bif b1 then
    some ([] : List Image)
  else
    chk (decide ((([] : List Image) ++ p0).length ≤ room)) <|
    some (([] : List Image) ++ p0)

theorem slices_Clone_ok {fuel : Nat} {p0 : (List Image)} {r : (List Image)} (h : slices_Clone fuel p0 = some r) : PC Try.prog 45 [.d (.list 3 (List.map encImage p0))] (.own 3 (List.map encImage r)) := by
  refine PC.of_SW Try.func45 rfl fun H => ?_
  unfold slices_Clone at h
  refine SW.kp 8 H [0] [(0, .d (.list 3 (List.map encImage p0)))] (by kernel_rfl) <| SW.seq <| SW.regionK <| OWk.sg 8 H [] [0] 1 [(0, .d (.list 3 (List.map encImage p0)))] (by kernel_rfl) <| OWk.done (by kernel_rfl) <| thenS_n <| SW.seq <| SW.seq <| SW.regionK <| OWk.sg 8 H [] [0, 3] 1 [(0, .d (.list 3 (List.map encImage p0))), (3, .d (.list 3 (List.map encImage p0)))] (by kernel_rfl) ?_
  refine OWk.nilq (xs := List.map encImage p0) (d := some 4) (e := true) 8 H [0, 4] (fun b1 => [(0, .d (.list 3 (List.map encImage p0))), (4, vB b1)]) (by kernel_rfl) (fun _ => by kernel_rfl) (fun b1 hnil => ?_)
  replace h := nilB_inv h b1 (fun e => List.map_eq_nil_iff.1 (hnil e))
  refine OWk.done (by kernel_rfl) <| thenS_n ?_
  refine SW.condB (b := b1) (by kernel_rfl) (fun hc => ?_) (fun hc => ?_)
  · replace h := bif_t hc h
    refine SW.seq <| SW.regionK <| OWk.sg 8 H [] [2] 1 [(2, .own 3 (List.map encImage ([] : List Image)))] (by kernel_rfl) <| OWk.done (by kernel_rfl) <| thenS_n <| SW.ret <| thenS_r ?_
    cases h
    exact EndQ.ret [] (by kernel_rfl) rfl
  · replace h := bif_f hc h
    refine SW.skip <| thenS_n <| SW.seq <| SW.regionK <| OWk.sg 8 H [5] [5, 6] 2 [(5, .own 3 (List.map encImage ([] : List Image))), (6, .d (.list 3 (List.map encImage p0)))] (by kernel_rfl) ?_
    obtain ⟨hk, h⟩ := chk_inv h
    refine OWk.app 8 H (s := 5) (d := 7) (w := 3) [7] (zs := List.map encImage (([] : List Image) ++ p0)) [(7, .own 3 (List.map encImage (([] : List Image) ++ p0)))] (ys := (List.map encImage p0)) (by kernel_rfl) (map_append') (room_map hk) (by kernel_rfl) <| OWk.sg 8 H [5] [2] 1 [(2, .own 3 (List.map encImage (([] : List Image) ++ p0)))] (by kernel_rfl) <| OWk.done (by kernel_rfl) <| thenS_n <| SW.ret ?_
    cases h
    exact EndQ.ret [] (by kernel_rfl) rfl

theorem bytealg_CompareString (a b : ByteArray) (w : World) :
    Calls Try.prog 69 #[.string a, .string b] w fun e w' => e = .returned (.int .i64 (Lib.compareBytes a.data.toList b.data.toList)) ∧ w' = w := by
  go_enter Try.func69, Try.ntmps69
  go_wp2
  rw [run_callFunc_extern Try.func84 (by kernel_rfl) (by kernel_rfl) (by kernel_rfl) (e := Extern.BytealgCompare.compare) (by kernel_rfl), Lib.run_compareString]
  simp only [Result.andThen]
  rw [Oper.upon_value]
  go_wp2
  go_ret
  exact ⟨rfl, rfl⟩
theorem cmpS_ok {fuel : Nat} {p0 : (List UInt8)} {p1 : (List UInt8)} {r : Int} (h : cmpS fuel p0 p1 = some r) : PC Try.prog 69 [vS p0, vS p1] (vI r) := cmpS_pc h bytealg_CompareString

def strings_Compare (fuel : Nat) (p0 : (List UInt8)) (p1 : (List UInt8)) : Option (Int) :=
  (cmpS fuel p0 p1).bind fun r1 =>
  some r1

theorem strings_Compare_ok {fuel : Nat} {p0 : (List UInt8)} {p1 : (List UInt8)} {r : Int} (h : strings_Compare fuel p0 p1 = some r) : PC Try.prog 48 [vS p0, vS p1] (vI r) := by
  refine PC.of_SW Try.func48 rfl fun H => ?_
  unfold strings_Compare at h
  refine SW.kp 8 H [0, 1] [(0, vS p0), (1, vS p1)] (by kernel_rfl) <| SW.seq <| SW.regionK <| OWk.sg 8 H [] [0, 1] 1 [(0, vS p0), (1, vS p1)] (by kernel_rfl) <| OWk.done (by kernel_rfl) <| thenS_n <| SW.seq <| SW.regionK <| OWk.sg 8 H [] [5, 6] 2 [(5, vS p0), (6, vS p1)] (by kernel_rfl) ?_
  obtain ⟨r1, hr, h⟩ := bind_inv h
  refine OWk.cl 8 H (d := some 7) (ls := []) (gs := []) [] [7] [(7, vI r1)] (cmpS_ok hr) (by kernel_rfl) (by kernel_rfl) (by kernel_rfl) <| OWk.sg 8 H [] [4] 1 [(4, vI r1)] (by kernel_rfl) <| OWk.done (by kernel_rfl) <| thenS_n <| SW.ret ?_
  cases h
  exact EndQ.ret [] (by kernel_rfl) rfl

def j_Apply_2 (fuel : Nat) (p0 : Image) (p1 : (List UInt8)) : Option (Int) :=
  (strings_Compare fuel p0.Key p1).bind fun r1 =>
  some r1

theorem j_Apply_2_ok {fuel : Nat} {p0 : Image} {p1 : (List UInt8)} {r : Int} (h : j_Apply_2 fuel p0 p1 = some r) : PC Try.prog 47 [.d (encImage p0), vS p1] (vI r) := by
  refine PC.of_SW Try.func47 rfl fun H => ?_
  unfold j_Apply_2 at h
  refine SW.kp 9 H [0, 1] [(0, .d (.agg [.str p0.Key, .bool p0.Has, .str p0.Text])), (1, vS p1)] (by kernel_rfl) <| SW.seq <| SW.regionK <| OWk.sg 9 H [] [1, 2] 2 [(1, vS p1), (2, .box [vS p0.Key, vB p0.Has, vS p0.Text])] (by kernel_rfl) <| OWk.done (by kernel_rfl) <| thenS_n <| SW.seq <| SW.regionK <| OWk.sg 9 H [] [6, 7] 3 [(6, vS p0.Key), (7, vS p1)] (by kernel_rfl) ?_
  obtain ⟨r1, hr, h⟩ := bind_inv h
  refine OWk.cl 9 H (d := some 8) (ls := []) (gs := []) [] [8] [(8, vI r1)] (strings_Compare_ok hr) (by kernel_rfl) (by kernel_rfl) (by kernel_rfl) <| OWk.sg 9 H [] [4] 1 [(4, vI r1)] (by kernel_rfl) <| OWk.done (by kernel_rfl) <| thenS_n <| SW.ret ?_
  cases h
  exact EndQ.ret [] (by kernel_rfl) rfl

def slices_BinarySearchFunc_47_l1 (fuel : Nat) (p0 : (List Image)) (p1 : (List UInt8)) (y1 : Int × Int) : Option ((Int × Int) ⊕ (Int)) :=
  bif (decide (y1.1 < y1.2)) then
    (idx p0 (IntKind.wrap .i64 (Int.fdiv (IntKind.wrap .u64 (IntKind.wrap .i64 (y1.1 + y1.2))) (2 ^ 1)))).bind fun x2 =>
    (j_Apply_2 fuel x2 p1).bind fun r3 =>
    bif (decide (r3 < 0)) then
      some (.inl ((IntKind.wrap .i64 ((IntKind.wrap .i64 (Int.fdiv (IntKind.wrap .u64 (IntKind.wrap .i64 (y1.1 + y1.2))) (2 ^ 1))) + 1)), y1.2))
    else
      some (.inl (y1.1, (IntKind.wrap .i64 (Int.fdiv (IntKind.wrap .u64 (IntKind.wrap .i64 (y1.1 + y1.2))) (2 ^ 1)))))
  else
    some (.inr y1.1)

def slices_BinarySearchFunc_47 (fuel : Nat) (p0 : (List Image)) (p1 : (List UInt8)) : Option (Int × Bool) :=
  (iter (slices_BinarySearchFunc_47_l1 fuel p0 p1) fuel (0, (p0.length : Int))).bind fun v5 =>
  bif (decide (v5 < (p0.length : Int))) then
    (idx p0 v5).bind fun x6 =>
    (j_Apply_2 fuel x6 p1).bind fun r7 =>
    some (v5, (r7 == 0))
  else
    some (v5, false)

theorem slices_BinarySearchFunc_47_ok {fuel : Nat} {p0 : (List Image)} {p1 : (List UInt8)} {r : Int × Bool} (h : slices_BinarySearchFunc_47 fuel p0 p1 = some r) : PC Try.prog 46 [.d (.list 3 (List.map encImage p0)), vS p1, .d (.fn (.func 47) [] [])] (.tup [vI r.1, vB r.2]) := by
  refine PC.of_SW Try.func46 rfl fun H => ?_
  unfold slices_BinarySearchFunc_47 at h
  refine SW.kp 49 H [0, 1, 2] [(0, .d (.list 3 (List.map encImage p0))), (1, vS p1), (2, .d (.fn (.func 47) [] []))] (by kernel_rfl) <| SW.seq <| SW.regionK <| OWk.sg 49 H [] [0, 1, 2] 2 [(0, .d (.list 3 (List.map encImage p0))), (1, vS p1), (2, .d (.fn (.func 47) [] []))] (by kernel_rfl) <| OWk.done (by kernel_rfl) <| thenS_n <| SW.seq <| SW.regionK <| OWk.sg 49 H [] [0, 1, 2, 12] 1 [(0, .d (.list 3 (List.map encImage p0))), (1, vS p1), (2, .d (.fn (.func 47) [] [])), (12, .d (.list 3 (List.map encImage p0)))] (by kernel_rfl) <| OWk.on 49 H (d := some 13) [0, 1, 2, 13] [(0, .d (.list 3 (List.map encImage p0))), (1, vS p1), (2, .d (.fn (.func 47) [] [])), (13, vI (p0.length : Int))] (BAt.len (enc := encImage) (xs := p0) (by kernel_rfl)) (by kernel_rfl) <| OWk.sg 49 H [] [0, 1, 2, 8] 1 [(0, .d (.list 3 (List.map encImage p0))), (1, vS p1), (2, .d (.fn (.func 47) [] [])), (8, vI (p0.length : Int))] (by kernel_rfl) <| OWk.done (by kernel_rfl) <| thenS_n <| SW.seq <| SW.regionK <| OWk.sg 49 H [] [0, 1, 2, 8, 9, 10] 3 [(0, .d (.list 3 (List.map encImage p0))), (1, vS p1), (2, .d (.fn (.func 47) [] [])), (8, vI (p0.length : Int)), (9, vI 0), (10, vI (p0.length : Int))] (by kernel_rfl) <| OWk.done (by kernel_rfl) <| thenS_n <| SW.seq <| SW.block ?_
  obtain ⟨v5, hit, h⟩ := bind_inv h
  refine SW.it 49 H [0, 1, 2, 8, 9, 10] (fun y1 => [(0, .d (.list 3 (List.map encImage p0))), (1, vS p1), (2, .d (.fn (.func 47) [] [])), (8, vI (p0.length : Int)), (9, vI y1.1), (10, vI y1.2)]) (fun v5 e s => (e = .exit 0 ∧ s = (sp 49 [(0, .d (.list 3 (List.map encImage p0))), (1, vS p1), (2, .d (.fn (.func 47) [] [])), (8, vI (p0.length : Int)), (9, vI v5)] H))) hit (by kernel_rfl) (fun y1 o h => ?_) ?_
  · unfold slices_BinarySearchFunc_47_l1 at h
    refine SW.seq <| SW.seq <| SW.regionK <| OWk.sg 49 H [] [0, 1, 2, 8, 9, 10, 17] 3 [(0, .d (.list 3 (List.map encImage p0))), (1, vS p1), (2, .d (.fn (.func 47) [] [])), (8, vI (p0.length : Int)), (9, vI y1.1), (10, vI y1.2), (17, vB (decide (y1.1 < y1.2)))] (by kernel_rfl) <| OWk.done (by kernel_rfl) <| thenS_n ?_
    refine SW.condB (b := (decide (y1.1 < y1.2))) (by kernel_rfl) (fun hc => ?_) (fun hc => ?_)
    · replace h := bif_t hc h
      refine SW.skip <| thenS_n <| SW.block <| SW.seq <| SW.regionK <| OWk.sg 49 H [] [0, 1, 2, 8, 9, 10, 11] 7 [(0, .d (.list 3 (List.map encImage p0))), (1, vS p1), (2, .d (.fn (.func 47) [] [])), (8, vI (p0.length : Int)), (9, vI y1.1), (10, vI y1.2), (11, vI (IntKind.wrap .i64 (Int.fdiv (IntKind.wrap .u64 (IntKind.wrap .i64 (y1.1 + y1.2))) (2 ^ 1))))] (by kernel_rfl) <| OWk.done (by kernel_rfl) <| thenS_n <| SW.seq <| SW.regionK <| OWk.sg 49 H [] [0, 1, 2, 8, 9, 10, 11, 24, 25, 26] 3 [(0, .d (.list 3 (List.map encImage p0))), (1, vS p1), (2, .d (.fn (.func 47) [] [])), (8, vI (p0.length : Int)), (9, vI y1.1), (10, vI y1.2), (11, vI (IntKind.wrap .i64 (Int.fdiv (IntKind.wrap .u64 (IntKind.wrap .i64 (y1.1 + y1.2))) (2 ^ 1)))), (24, .d (.fn (.func 47) [] [])), (25, .d (.list 3 (List.map encImage p0))), (26, vI (IntKind.wrap .i64 (Int.fdiv (IntKind.wrap .u64 (IntKind.wrap .i64 (y1.1 + y1.2))) (2 ^ 1))))] (by kernel_rfl) ?_
      obtain ⟨x2, hx, h⟩ := bind_inv h
      refine OWk.on 49 H (d := some 27) (s := lendP none (Go.Sh.D.cells (encImage x2))) [0, 1, 2, 8, 9, 10, 11, 24, 27] [(0, .d (.list 3 (List.map encImage p0))), (1, vS p1), (2, .d (.fn (.func 47) [] [])), (8, vI (p0.length : Int)), (9, vI y1.1), (10, vI y1.2), (11, vI (IntKind.wrap .i64 (Int.fdiv (IntKind.wrap .u64 (IntKind.wrap .i64 (y1.1 + y1.2))) (2 ^ 1)))), (24, .d (.fn (.func 47) [] [])), (27, .d (.dptr [.str x2.Key, .bool x2.Has, .str x2.Text]))] (BAt.index (n := 3) hx (by kernel_rfl)) (by kernel_rfl) <| OWk.sg 49 H [] [0, 1, 2, 8, 9, 10, 11, 24, 28, 29] 2 [(0, .d (.list 3 (List.map encImage p0))), (1, vS p1), (2, .d (.fn (.func 47) [] [])), (8, vI (p0.length : Int)), (9, vI y1.1), (10, vI y1.2), (11, vI (IntKind.wrap .i64 (Int.fdiv (IntKind.wrap .u64 (IntKind.wrap .i64 (y1.1 + y1.2))) (2 ^ 1)))), (24, .d (.fn (.func 47) [] [])), (28, .d (.agg [.str x2.Key, .bool x2.Has, .str x2.Text])), (29, vS p1)] (by kernel_rfl) ?_
      obtain ⟨r3, hr, h⟩ := bind_inv h
      refine OWk.cl 49 H (d := some 30) (ls := []) (gs := []) [] [0, 1, 2, 8, 9, 10, 11, 30] [(0, .d (.list 3 (List.map encImage p0))), (1, vS p1), (2, .d (.fn (.func 47) [] [])), (8, vI (p0.length : Int)), (9, vI y1.1), (10, vI y1.2), (11, vI (IntKind.wrap .i64 (Int.fdiv (IntKind.wrap .u64 (IntKind.wrap .i64 (y1.1 + y1.2))) (2 ^ 1)))), (30, vI r3)] (j_Apply_2_ok hr) (by kernel_rfl) (by kernel_rfl) (by kernel_rfl) <| OWk.sg 49 H [] [0, 1, 2, 8, 9, 10, 11, 31] 1 [(0, .d (.list 3 (List.map encImage p0))), (1, vS p1), (2, .d (.fn (.func 47) [] [])), (8, vI (p0.length : Int)), (9, vI y1.1), (10, vI y1.2), (11, vI (IntKind.wrap .i64 (Int.fdiv (IntKind.wrap .u64 (IntKind.wrap .i64 (y1.1 + y1.2))) (2 ^ 1)))), (31, vB (decide (r3 < 0)))] (by kernel_rfl) <| OWk.done (by kernel_rfl) <| thenS_n ?_
      refine SW.condB (b := (decide (r3 < 0))) (by kernel_rfl) (fun hc => ?_) (fun hc => ?_)
      · replace h := bif_t hc h
        refine SW.regionK <| OWk.sg 49 H [] [0, 1, 2, 8, 9, 10] 3 [(0, .d (.list 3 (List.map encImage p0))), (1, vS p1), (2, .d (.fn (.func 47) [] [])), (8, vI (p0.length : Int)), (9, vI (IntKind.wrap .i64 ((IntKind.wrap .i64 (Int.fdiv (IntKind.wrap .u64 (IntKind.wrap .i64 (y1.1 + y1.2))) (2 ^ 1))) + 1))), (10, vI y1.2)] (by kernel_rfl) <| OWk.done (by kernel_rfl) <| blockS_n ?_
        cases h
        exact ⟨((IntKind.wrap .i64 ((IntKind.wrap .i64 (Int.fdiv (IntKind.wrap .u64 (IntKind.wrap .i64 (y1.1 + y1.2))) (2 ^ 1))) + 1)), y1.2), rfl, by kernel_rfl⟩
      · replace h := bif_f hc h
        refine SW.regionK <| OWk.sg 49 H [] [0, 1, 2, 8, 9, 10] 2 [(0, .d (.list 3 (List.map encImage p0))), (1, vS p1), (2, .d (.fn (.func 47) [] [])), (8, vI (p0.length : Int)), (9, vI y1.1), (10, vI (IntKind.wrap .i64 (Int.fdiv (IntKind.wrap .u64 (IntKind.wrap .i64 (y1.1 + y1.2))) (2 ^ 1))))] (by kernel_rfl) <| OWk.done (by kernel_rfl) <| blockS_n ?_
        cases h
        exact ⟨(y1.1, (IntKind.wrap .i64 (Int.fdiv (IntKind.wrap .u64 (IntKind.wrap .i64 (y1.1 + y1.2))) (2 ^ 1)))), rfl, by kernel_rfl⟩
    · replace h := bif_f hc h
      refine SW.kp 49 H [0, 1, 2, 8, 9] [(0, .d (.list 3 (List.map encImage p0))), (1, vS p1), (2, .d (.fn (.func 47) [] [])), (8, vI (p0.length : Int)), (9, vI y1.1)] (by kernel_rfl) <| SW.exit <| thenS_e ?_
      cases h
      refine thenS_e ?_
      exact ⟨_, rfl, ⟨rfl, rfl⟩⟩
  · rintro _ _ ⟨rfl, rfl⟩
    refine blockS_hit <| thenS_n <| SW.seq <| SW.regionK <| OWk.sg 49 H [] [0, 1, 2, 9, 35, 39] 5 [(0, .d (.list 3 (List.map encImage p0))), (1, vS p1), (2, .d (.fn (.func 47) [] [])), (9, vI v5), (35, vI v5), (39, vB (decide (v5 < (p0.length : Int))))] (by kernel_rfl) ?_
    refine OWk.case (decide (v5 < (p0.length : Int))) (fun b => (sp 49 [(0, .d (.list 3 (List.map encImage p0))), (1, vS p1), (2, .d (.fn (.func 47) [] [])), (9, vI v5), (35, vI v5), (39, vB b)] H)) (by kernel_rfl) (fun hc => ?_) (fun hc => ?_)
    · replace h := bif_t hc h
      refine OWk.sg 49 H [] [1, 35, 39, 40, 41, 42] 3 [(1, vS p1), (35, vI v5), (39, vB true), (40, .d (.fn (.func 47) [] [])), (41, .d (.list 3 (List.map encImage p0))), (42, vI v5)] (by kernel_rfl) ?_
      obtain ⟨x6, hx, h⟩ := bind_inv h
      refine OWk.on 49 H (d := some 43) (s := lendP none (Go.Sh.D.cells (encImage x6))) [1, 35, 39, 40, 43] [(1, vS p1), (35, vI v5), (39, vB true), (40, .d (.fn (.func 47) [] [])), (43, .d (.dptr [.str x6.Key, .bool x6.Has, .str x6.Text]))] (BAt.index (n := 3) hx (by kernel_rfl)) (by kernel_rfl) <| OWk.sg 49 H [] [35, 39, 40, 44, 45] 2 [(35, vI v5), (39, vB true), (40, .d (.fn (.func 47) [] [])), (44, .d (.agg [.str x6.Key, .bool x6.Has, .str x6.Text])), (45, vS p1)] (by kernel_rfl) ?_
      obtain ⟨r7, hr, h⟩ := bind_inv h
      refine OWk.cl 49 H (d := some 46) (ls := []) (gs := []) [] [35, 39, 46] [(35, vI v5), (39, vB true), (46, vI r7)] (j_Apply_2_ok hr) (by kernel_rfl) (by kernel_rfl) (by kernel_rfl) <| OWk.sg 49 H [] [6, 7] 4 [(6, vI v5), (7, vB (r7 == 0))] (by kernel_rfl) <| OWk.done (by kernel_rfl) <| thenS_n <| SW.ret ?_
      cases h
      exact EndQ.ret [] (by kernel_rfl) rfl
    · replace h := bif_f hc h
      refine OWk.sg 49 H [] [6, 7] 11 [(6, vI v5), (7, vB false)] (by kernel_rfl) <| OWk.done (by kernel_rfl) <| thenS_n <| SW.ret ?_
      cases h
      exact EndQ.ret [] (by kernel_rfl) rfl

def slices_Insert (fuel : Nat) (p0 : (List Image)) (p1 : Int) (p2 : (List Image)) : Option ((List Image)) :=
  chk (slOk p0 p1 (p0.length : Int)) <|
  bif ((p2.length : Int) == 0) then
    some p0
  else
    bif (p1 == (p0.length : Int)) then
      chk (decide ((p0 ++ p2).length ≤ room)) <|
      some (p0 ++ p2)
    else
      chk (decide (0 ≤ p1) && decide (p1 < (p0.length : Int)) && decide (0 < p2.length) && decide (p0.length + p2.length ≤ room)) <|
      some (List.take (Int.toNat p1) p0 ++ p2 ++ List.drop (Int.toNat p1) p0)

theorem slices_Insert_ok {fuel : Nat} {p0 : (List Image)} {p1 : Int} {p2 : (List Image)} {r : (List Image)} (h : slices_Insert fuel p0 p1 p2 = some r) : PC Try.prog 49 [.own 3 (List.map encImage p0), vI p1, .d (.list 3 (List.map encImage p2))] (.own 3 (List.map encImage r)) := by
  refine PC.of_SW Try.func49 rfl fun H => ?_
  unfold slices_Insert at h
  refine SW.kp 95 H [0, 1, 2] [(0, .own 3 (List.map encImage p0)), (1, vI p1), (2, .d (.list 3 (List.map encImage p2)))] (by kernel_rfl) <| SW.seq <| SW.regionK <| OWk.sg 95 H [] [0, 1, 2] 1 [(0, .own 3 (List.map encImage p0)), (1, vI p1), (2, .d (.list 3 (List.map encImage p2)))] (by kernel_rfl) <| OWk.done (by kernel_rfl) <| thenS_n <| SW.seq <| SW.regionK <| OWk.sg 95 H [] [0, 1, 2, 10, 11] 2 [(0, .own 3 (List.map encImage p0)), (1, vI p1), (2, .d (.list 3 (List.map encImage p2))), (10, .lent (.slot 0) 3 (List.map encImage p0)), (11, vI p1)] (by kernel_rfl) ?_
  obtain ⟨hk, h⟩ := chk_inv h
  refine OWk.on 95 H (d := some 12) (s := lendL (some (.slot 0)) 3 (List.map encImage (sl p0 p1 (p0.length : Int)))) [0, 1, 2] [(0, .own 3 (List.map encImage p0)), (1, vI p1), (2, .d (.list 3 (List.map encImage p2)))] (BAt.slice hk (by kernel_rfl)) (by kernel_rfl) <| OWk.done (by kernel_rfl) <| thenS_n <| SW.seq <| SW.regionK <| OWk.sg 95 H [] [0, 1, 2, 13] 1 [(0, .own 3 (List.map encImage p0)), (1, vI p1), (2, .d (.list 3 (List.map encImage p2))), (13, .d (.list 3 (List.map encImage p2)))] (by kernel_rfl) <| OWk.on 95 H (d := some 14) [0, 1, 2, 14] [(0, .own 3 (List.map encImage p0)), (1, vI p1), (2, .d (.list 3 (List.map encImage p2))), (14, vI (p2.length : Int))] (BAt.len (enc := encImage) (xs := p2) (by kernel_rfl)) (by kernel_rfl) <| OWk.sg 95 H [] [0, 1, 2, 7] 1 [(0, .own 3 (List.map encImage p0)), (1, vI p1), (2, .d (.list 3 (List.map encImage p2))), (7, vI (p2.length : Int))] (by kernel_rfl) <| OWk.done (by kernel_rfl) <| thenS_n <| SW.seq <| SW.seq <| SW.regionK <| OWk.sg 95 H [] [0, 1, 2, 7, 16] 2 [(0, .own 3 (List.map encImage p0)), (1, vI p1), (2, .d (.list 3 (List.map encImage p2))), (7, vI (p2.length : Int)), (16, vB ((p2.length : Int) == 0))] (by kernel_rfl) <| OWk.done (by kernel_rfl) <| thenS_n ?_
  refine SW.condB (b := ((p2.length : Int) == 0)) (by kernel_rfl) (fun hc => ?_) (fun hc => ?_)
  · replace h := bif_t hc h
    refine SW.seq <| SW.regionK <| OWk.sg 95 H [17] [6] 2 [(6, .own 3 (List.map encImage p0))] (by kernel_rfl) <| OWk.done (by kernel_rfl) <| thenS_n <| SW.ret <| thenS_r ?_
    cases h
    exact EndQ.ret [] (by kernel_rfl) rfl
  · replace h := bif_f hc h
    refine SW.skip <| thenS_n <| SW.seq <| SW.regionK <| OWk.sg 95 H [] [0, 1, 2, 7, 18] 1 [(0, .own 3 (List.map encImage p0)), (1, vI p1), (2, .d (.list 3 (List.map encImage p2))), (7, vI (p2.length : Int)), (18, .lent (.slot 0) 3 (List.map encImage p0))] (by kernel_rfl) <| OWk.on 95 H (d := some 19) [0, 1, 2, 7, 19] [(0, .own 3 (List.map encImage p0)), (1, vI p1), (2, .d (.list 3 (List.map encImage p2))), (7, vI (p2.length : Int)), (19, vI (p0.length : Int))] (BAt.len (enc := encImage) (xs := p0) (by kernel_rfl)) (by kernel_rfl) <| OWk.sg 95 H [] [0, 1, 2, 7, 8] 1 [(0, .own 3 (List.map encImage p0)), (1, vI p1), (2, .d (.list 3 (List.map encImage p2))), (7, vI (p2.length : Int)), (8, vI (p0.length : Int))] (by kernel_rfl) <| OWk.done (by kernel_rfl) <| thenS_n <| SW.seq <| SW.seq <| SW.regionK <| OWk.sg 95 H [] [0, 1, 2, 7, 8, 22] 3 [(0, .own 3 (List.map encImage p0)), (1, vI p1), (2, .d (.list 3 (List.map encImage p2))), (7, vI (p2.length : Int)), (8, vI (p0.length : Int)), (22, vB (p1 == (p0.length : Int)))] (by kernel_rfl) <| OWk.done (by kernel_rfl) <| thenS_n ?_
    refine SW.condB (b := (p1 == (p0.length : Int))) (by kernel_rfl) (fun hc => ?_) (fun hc => ?_)
    · replace h := bif_t hc h
      refine SW.seq <| SW.regionK <| OWk.sg 95 H [23] [23, 24] 2 [(23, .own 3 (List.map encImage p0)), (24, .d (.list 3 (List.map encImage p2)))] (by kernel_rfl) ?_
      obtain ⟨hk, h⟩ := chk_inv h
      refine OWk.app 95 H (s := 23) (d := 25) (w := 3) [25] (zs := List.map encImage (p0 ++ p2)) [(25, .own 3 (List.map encImage (p0 ++ p2)))] (ys := (List.map encImage p2)) (by kernel_rfl) (map_append') (room_map hk) (by kernel_rfl) <| OWk.sg 95 H [23] [6] 1 [(6, .own 3 (List.map encImage (p0 ++ p2)))] (by kernel_rfl) <| OWk.done (by kernel_rfl) <| thenS_n <| SW.ret <| thenS_r ?_
      cases h
      exact EndQ.ret [] (by kernel_rfl) rfl
    · replace h := bif_f hc h
      refine SW.skip <| thenS_n ?_
      obtain ⟨hk, h⟩ := chk_inv h
      refine SW.kp 95 H [0, 1, 2, 7, 8] [(0, .own 3 (List.map encImage p0)), (1, vI p1), (2, .d (.list 3 (List.map encImage p2))), (7, vI (p2.length : Int)), (8, vI (p0.length : Int))] (by kernel_rfl) ?_
      obtain ⟨hT, ti, z, zd, hi, hz, hzd, hzn, hsz, hn, hby⟩ := elemB_spec (P := Try.prog) (T := 22) (e := 41) (n := 3) (by kernel_rfl)
      refine SW.insM (enc := encImage) (xs := p0) (ys := p2) (i := p1) (T := 22) (I := 3) (B := 4) (fo := 70) (ik := .i64) hk hT (by kernel_rfl) hi hz hzd hzn hsz hn hby (fun args w => run_callFunc_extern Try.func70 (by kernel_rfl) (by kernel_rfl) (by kernel_rfl) (by kernel_rfl) args w) (by kernel_rfl) (by kernel_rfl) (by kernel_rfl) ⟨rfl, rfl, rfl⟩ ⟨rfl, rfl, rfl⟩ ⟨rfl, rfl, rfl⟩ ⟨rfl, rfl, rfl⟩ ⟨rfl, rfl, rfl⟩ ⟨rfl, rfl, rfl⟩ ⟨rfl, rfl, rfl⟩ ⟨rfl, rfl, rfl⟩ ⟨rfl, rfl, rfl⟩ ⟨rfl, rfl, rfl⟩ ⟨rfl, rfl, rfl⟩ ⟨rfl, rfl, rfl⟩ ⟨rfl, rfl, rfl⟩ ⟨rfl, rfl, rfl⟩ ⟨rfl, rfl, rfl⟩ ⟨rfl, rfl, rfl⟩ ⟨rfl, rfl, rfl⟩ ⟨rfl, rfl, rfl⟩ ⟨rfl, rfl, rfl⟩ ⟨rfl, rfl, rfl⟩ ⟨rfl, rfl, rfl⟩ ⟨rfl, rfl, rfl⟩ ⟨rfl, rfl, rfl⟩ ⟨rfl, rfl, rfl⟩ ⟨rfl, rfl, rfl⟩ ⟨rfl, rfl, rfl⟩ ⟨rfl, rfl, rfl⟩ ⟨rfl, rfl, rfl⟩ ⟨rfl, rfl, rfl⟩ ⟨rfl, rfl, rfl⟩ ⟨rfl, rfl, rfl⟩ ⟨rfl, rfl, rfl⟩ ⟨rfl, rfl, rfl⟩ ⟨rfl, rfl, rfl⟩ ⟨rfl, rfl, rfl⟩ ⟨rfl, rfl, rfl⟩ ⟨rfl, rfl, rfl⟩ ⟨rfl, rfl, rfl⟩ ⟨rfl, rfl, rfl⟩ ⟨rfl, rfl, rfl⟩ ⟨rfl, rfl, rfl⟩ ⟨rfl, rfl, rfl⟩ ⟨rfl, rfl, rfl⟩ ⟨rfl, rfl, rfl⟩ ⟨rfl, rfl, rfl⟩ ⟨rfl, rfl, rfl⟩ ⟨rfl, rfl, rfl⟩ ⟨rfl, rfl, rfl⟩ ⟨rfl, rfl, rfl⟩ ⟨rfl, rfl, rfl⟩ ⟨rfl, rfl, rfl⟩ ⟨rfl, rfl, rfl⟩ ⟨rfl, rfl, rfl⟩ ⟨rfl, rfl, rfl⟩ ⟨rfl, rfl, rfl⟩ ⟨rfl, rfl, rfl⟩ ⟨rfl, rfl, rfl⟩ ⟨rfl, rfl, rfl⟩ ⟨rfl, rfl, rfl⟩ ⟨rfl, rfl, rfl⟩ ⟨rfl, rfl, rfl⟩ ⟨rfl, rfl, rfl⟩ ?_
      cases h
      exact EndQ.ret [] (by kernel_rfl) rfl

def slices_Delete (fuel : Nat) (p0 : (List Image)) (p1 : Int) (p2 : Int) : Option ((List Image)) :=
  chk (decide (0 ≤ p1) && decide (p1 ≤ p2) && decide (p2 ≤ (p0.length : Int)) && decide ((p0.length : Int) ≤ p0.length)) <|
  bif (p1 == p2) then
    some p0
  else
    chk (decide (0 ≤ p1) && decide (p1 < p2) && decide (p2 ≤ (p0.length : Int)) && decide (p0.length ≤ room)) <|
    some (List.take (Int.toNat p1) p0 ++ List.drop (Int.toNat p2) p0)

theorem slices_Delete_ok {fuel : Nat} {p0 : (List Image)} {p1 : Int} {p2 : Int} {r : (List Image)} (h : slices_Delete fuel p0 p1 p2 = some r) : PC Try.prog 50 [.own 3 (List.map encImage p0), vI p1, vI p2] (.own 3 (List.map encImage r)) := by
  refine PC.of_SW Try.func50 rfl fun H => ?_
  unfold slices_Delete at h
  refine SW.kp 33 H [0, 1, 2] [(0, .own 3 (List.map encImage p0)), (1, vI p1), (2, vI p2)] (by kernel_rfl) <| SW.seq <| SW.regionK <| OWk.sg 33 H [] [0, 1, 2] 1 [(0, .own 3 (List.map encImage p0)), (1, vI p1), (2, vI p2)] (by kernel_rfl) <| OWk.done (by kernel_rfl) <| thenS_n <| SW.seq <| SW.regionK <| OWk.sg 33 H [] [0, 1, 2, 8, 9, 10, 11] 4 [(0, .own 3 (List.map encImage p0)), (1, vI p1), (2, vI p2), (8, .lent (.slot 0) 3 (List.map encImage p0)), (9, vI p1), (10, vI p2), (11, .lent (.slot 0) 3 (List.map encImage p0))] (by kernel_rfl) <| OWk.on 33 H (d := some 12) [0, 1, 2, 8, 9, 10, 12] [(0, .own 3 (List.map encImage p0)), (1, vI p1), (2, vI p2), (8, .lent (.slot 0) 3 (List.map encImage p0)), (9, vI p1), (10, vI p2), (12, vI (p0.length : Int))] (BAt.len (enc := encImage) (xs := p0) (by kernel_rfl)) (by kernel_rfl) ?_
  obtain ⟨hk, h⟩ := chk_inv h
  refine OWk.on 33 H (d := some 13) (s := .undef) [0, 1, 2] [(0, .own 3 (List.map encImage p0)), (1, vI p1), (2, vI p2)] (BAt.sl3 (enc := encImage) (xs := p0) hk (by kernel_rfl)) (by kernel_rfl) <| OWk.done (by kernel_rfl) <| thenS_n <| SW.seq <| SW.seq <| SW.regionK <| OWk.sg 33 H [] [0, 1, 2, 16] 3 [(0, .own 3 (List.map encImage p0)), (1, vI p1), (2, vI p2), (16, vB (p1 == p2))] (by kernel_rfl) <| OWk.done (by kernel_rfl) <| thenS_n ?_
  refine SW.condB (b := (p1 == p2)) (by kernel_rfl) (fun hc => ?_) (fun hc => ?_)
  · replace h := bif_t hc h
    refine SW.seq <| SW.regionK <| OWk.sg 33 H [17] [6] 2 [(6, .own 3 (List.map encImage p0))] (by kernel_rfl) <| OWk.done (by kernel_rfl) <| thenS_n <| SW.ret <| thenS_r ?_
    cases h
    exact EndQ.ret [] (by kernel_rfl) rfl
  · replace h := bif_f hc h
    refine SW.skip <| thenS_n <| SW.seq <| SW.regionK <| OWk.sg 33 H [] [0, 1, 2, 18] 1 [(0, .own 3 (List.map encImage p0)), (1, vI p1), (2, vI p2), (18, .lent (.slot 0) 3 (List.map encImage p0))] (by kernel_rfl) <| OWk.on 33 H (d := some 19) [0, 1, 2, 19] [(0, .own 3 (List.map encImage p0)), (1, vI p1), (2, vI p2), (19, vI (p0.length : Int))] (BAt.len (enc := encImage) (xs := p0) (by kernel_rfl)) (by kernel_rfl) <| OWk.sg 33 H [] [0, 1, 2, 7] 1 [(0, .own 3 (List.map encImage p0)), (1, vI p1), (2, vI p2), (7, vI (p0.length : Int))] (by kernel_rfl) <| OWk.done (by kernel_rfl) <| thenS_n ?_
    obtain ⟨hk, h⟩ := chk_inv h
    refine SW.kp 33 H [0, 1, 2, 7] [(0, .own 3 (List.map encImage p0)), (1, vI p1), (2, vI p2), (7, vI (p0.length : Int))] (by kernel_rfl) ?_
    obtain ⟨hT, ti, z, zd, hi, hz, hzd, hzn, hsz, hn, hby⟩ := elemB_spec (P := Try.prog) (T := 22) (e := 41) (n := 3) (by kernel_rfl)
    refine SW.delM (enc := encImage) (xs := p0) (i := p1) (j := p2) (T := 22) (s := 0) (a1 := 1) (a2 := 2) (a3 := 7) (t1 := 20) (t2 := 21) (t3 := 22) (t4 := 23) (t5 := 24) (t6 := 25) (t7 := 26) (u1 := 27) (u2 := 28) (u3 := 29) (u4 := 30) (u5 := 31) (st2 := (sp 33 [(0, .own 3 (List.map encImage (List.take (Int.toNat p1) p0 ++ List.drop (Int.toNat p2) p0))), (1, vI p1), (2, vI p2), (7, vI (p0.length : Int))] H)) hk (by kernel_rfl) (by kernel_rfl) ⟨rfl, rfl, rfl⟩ ⟨rfl, rfl, rfl⟩ ⟨rfl, rfl, rfl⟩ ⟨rfl, rfl, rfl⟩ ⟨rfl, rfl, rfl⟩ ⟨rfl, rfl, rfl⟩ ⟨rfl, rfl, rfl⟩ ⟨rfl, rfl, rfl⟩ ⟨rfl, rfl, rfl⟩ ⟨rfl, rfl, rfl⟩ ⟨rfl, rfl, rfl⟩ ⟨rfl, rfl, rfl⟩ ⟨rfl, rfl, rfl⟩ ⟨rfl, rfl, rfl⟩ (by kernel_rfl) (by kernel_rfl) (by decide) (by decide) hT hi hz hzd hzn hsz hn hby (by kernel_rfl) (by kernel_rfl) (by kernel_rfl) (by kernel_rfl) (by kernel_rfl) <| SW.kp 33 H [0] [(0, .own 3 (List.map encImage (List.take (Int.toNat p1) p0 ++ List.drop (Int.toNat p2) p0)))] (by kernel_rfl) <| SW.seq <| SW.regionK <| OWk.sg 33 H [32] [6] 2 [(6, .own 3 (List.map encImage (List.take (Int.toNat p1) p0 ++ List.drop (Int.toNat p2) p0)))] (by kernel_rfl) <| OWk.done (by kernel_rfl) <| thenS_n <| SW.ret ?_
    cases h
    exact EndQ.ret [] (by kernel_rfl) rfl

def j_Apply_l1 (fuel : Nat) (p1 : (List Image)) (y6 : (List Image) × Int) : Option (((List Image) × Int) ⊕ ((List Image))) :=
  bif (decide (y6.2 < (p1.length : Int))) then
    (idx p1 y6.2).bind fun x7 =>
    (slices_BinarySearchFunc_47 fuel y6.1 x7.Key).bind fun r8 =>
    bif (x7.Has && r8.2) then
      (idx y6.1 r8.1).bind fun x9 =>
      chk (decide ((Int.toNat r8.1) < y6.1.length)) <|
      some (.inl ((List.set y6.1 (Int.toNat r8.1) x7), (IntKind.wrap .i64 (y6.2 + 1))))
    else
      bif x7.Has then
        (slices_Insert fuel y6.1 r8.1 [x7]).bind fun r10 =>
        some (.inl (r10, (IntKind.wrap .i64 (y6.2 + 1))))
      else
        bif r8.2 then
          (slices_Delete fuel y6.1 r8.1 (IntKind.wrap .i64 (r8.1 + 1))).bind fun r11 =>
          some (.inl (r11, (IntKind.wrap .i64 (y6.2 + 1))))
        else
          some (.inl (y6.1, (IntKind.wrap .i64 (y6.2 + 1))))
  else
    some (.inr y6.1)

def j_Apply (fuel : Nat) (p0 : (List Image)) (p1 : (List Image)) : Option ((List Image) × Int) :=
  letJ (fun (j1 : Bool) =>
    bif j1 then
      some (([] : List Image), 1)
    else
      (slices_Clone fuel p0).bind fun r5 =>
      (iter (j_Apply_l1 fuel p1) fuel (r5, 0)).bind fun v13 =>
      bif (decide ((v13.length : Int) > 500)) then
        some (([] : List Image), 4)
      else
        some (v13, 0)) fun jp2 =>
  (j_ordered fuel p0).bind fun r3 =>
  bif (!r3) then
    jp2 true
  else
    (slices_ContainsFunc_43 fuel p1).bind fun r4 =>
    jp2 r4

theorem j_Apply_ok {fuel : Nat} {p0 : (List Image)} {p1 : (List Image)} {r : (List Image) × Int} (h : j_Apply fuel p0 p1 = some r) : PC Try.prog 20 [.d (.list 3 (List.map encImage p0)), .d (.list 3 (List.map encImage p1))] (.tup [.own 3 (List.map encImage r.1), vI r.2]) := by
  refine PC.of_SW Try.func20 rfl fun H => ?_
  unfold j_Apply at h
  refine SW.kp 63 H [0, 1] [(0, .d (.list 3 (List.map encImage p0))), (1, .d (.list 3 (List.map encImage p1)))] (by kernel_rfl) <| SW.seq <| SW.regionK <| OWk.sg 63 H [] [0, 1] 2 [(0, .d (.list 3 (List.map encImage p0))), (1, .d (.list 3 (List.map encImage p1)))] (by kernel_rfl) <| OWk.done (by kernel_rfl) <| thenS_n <| SW.seq ?_
  obtain ⟨jp2, hjjp2, h⟩ := letJ_inv h
  refine SW.jn 63 H [0, 1, 17] (fun (j1 : Bool) => [(0, .d (.list 3 (List.map encImage p0))), (1, .d (.list 3 (List.map encImage p1))), (17, vB j1)]) (fun v => jp2 v = some r) (fun j1 h => ?_) ?_
  · rw [hjjp2] at h
    refine SW.condB (b := j1) (by kernel_rfl) (fun hc => ?_) (fun hc => ?_)
    · replace h := bif_t hc h
      refine SW.seq <| SW.regionK <| OWk.sg 63 H [] [4, 5] 2 [(4, .own 3 (List.map encImage ([] : List Image))), (5, vI 1)] (by kernel_rfl) <| OWk.done (by kernel_rfl) <| thenS_n <| SW.ret <| thenS_r ?_
      cases h
      exact EndQ.ret [] (by kernel_rfl) rfl
    · replace h := bif_f hc h
      refine SW.skip <| thenS_n <| SW.seq <| SW.regionK <| OWk.sg 63 H [] [1, 18] 1 [(1, .d (.list 3 (List.map encImage p1))), (18, .d (.list 3 (List.map encImage p0)))] (by kernel_rfl) ?_
      obtain ⟨r5, hr, h⟩ := bind_inv h
      refine OWk.cl 63 H (d := some 19) (ls := []) (gs := []) [] [1, 19] [(1, .d (.list 3 (List.map encImage p1))), (19, .own 3 (List.map encImage r5))] (slices_Clone_ok hr) (by kernel_rfl) (by kernel_rfl) (by kernel_rfl) <| OWk.sg 63 H [] [1, 6] 1 [(1, .d (.list 3 (List.map encImage p1))), (6, .own 3 (List.map encImage r5))] (by kernel_rfl) <| OWk.done (by kernel_rfl) <| thenS_n <| SW.seq <| SW.seq <| SW.regionK <| OWk.sg 63 H [] [6, 20] 1 [(6, .own 3 (List.map encImage r5)), (20, .d (.list 3 (List.map encImage p1)))] (by kernel_rfl) <| OWk.on 63 H (d := some 21) [6, 20, 21] [(6, .own 3 (List.map encImage r5)), (20, .d (.list 3 (List.map encImage p1))), (21, vI (p1.length : Int))] (BAt.len (enc := encImage) (xs := p1) (by kernel_rfl)) (by kernel_rfl) <| OWk.sg 63 H [] [6, 20, 21, 22] 1 [(6, .own 3 (List.map encImage r5)), (20, .d (.list 3 (List.map encImage p1))), (21, vI (p1.length : Int)), (22, vI 0)] (by kernel_rfl) <| OWk.done (by kernel_rfl) <| thenS_n <| SW.block ?_
      obtain ⟨v13, hit, h⟩ := bind_inv h
      refine SW.it 63 H [6, 20, 21, 22] (fun y6 => [(6, .own 3 (List.map encImage y6.1)), (20, .d (.list 3 (List.map encImage p1))), (21, vI (p1.length : Int)), (22, vI y6.2)]) (fun v13 e s => (e = .exit 0 ∧ s = (sp 63 [(6, .own 3 (List.map encImage v13))] H))) hit (by kernel_rfl) (fun y6 o h => ?_) ?_
      · unfold j_Apply_l1 at h
        refine SW.seq <| SW.regionK <| OWk.sg 63 H [] [6, 20, 21, 22, 23] 1 [(6, .own 3 (List.map encImage y6.1)), (20, .d (.list 3 (List.map encImage p1))), (21, vI (p1.length : Int)), (22, vI y6.2), (23, vB (decide (y6.2 < (p1.length : Int))))] (by kernel_rfl) <| OWk.done (by kernel_rfl) <| thenS_n <| SW.seq ?_
        refine SW.condB (b := (decide (y6.2 < (p1.length : Int)))) (by kernel_rfl) (fun hc => ?_) (fun hc => ?_)
        · replace h := bif_t hc h
          refine SW.skip <| thenS_n <| SW.seq <| SW.block <| SW.seq <| SW.regionK ?_
          obtain ⟨x7, hx, h⟩ := bind_inv h
          refine OWk.on 63 H (d := some 24) (s := lendP none (Go.Sh.D.cells (encImage x7))) [6, 20, 21, 22, 24] [(6, .own 3 (List.map encImage y6.1)), (20, .d (.list 3 (List.map encImage p1))), (21, vI (p1.length : Int)), (22, vI y6.2), (24, .d (.dptr [.str x7.Key, .bool x7.Has, .str x7.Text]))] (BAt.index (n := 3) hx (by kernel_rfl)) (by kernel_rfl) <| OWk.sg 63 H [] [6, 8, 20, 21, 22] 3 [(6, .own 3 (List.map encImage y6.1)), (8, .box [vS x7.Key, vB x7.Has, vS x7.Text]), (20, .d (.list 3 (List.map encImage p1))), (21, vI (p1.length : Int)), (22, vI y6.2)] (by kernel_rfl) <| OWk.done (by kernel_rfl) <| thenS_n <| SW.seq <| SW.regionK <| OWk.sg 63 H [] [6, 8, 20, 21, 22, 27, 29] 3 [(6, .own 3 (List.map encImage y6.1)), (8, .box [vS x7.Key, vB x7.Has, vS x7.Text]), (20, .d (.list 3 (List.map encImage p1))), (21, vI (p1.length : Int)), (22, vI y6.2), (27, .lent (.slot 6) 3 (List.map encImage y6.1)), (29, vS x7.Key)] (by kernel_rfl) ?_
          obtain ⟨r8, hr, h⟩ := bind_inv h
          refine OWk.cl 63 H (d := some 30) (ls := [(.slot 6)]) (gs := []) [] [6, 8, 20, 21, 22, 30] [(6, .own 3 (List.map encImage y6.1)), (8, .box [vS x7.Key, vB x7.Has, vS x7.Text]), (20, .d (.list 3 (List.map encImage p1))), (21, vI (p1.length : Int)), (22, vI y6.2), (30, .tup [vI r8.1, vB r8.2])] (slices_BinarySearchFunc_47_ok hr) (by kernel_rfl) (by kernel_rfl) (by kernel_rfl) <| OWk.sg 63 H [] [6, 8, 9, 10, 20, 21, 22] 5 [(6, .own 3 (List.map encImage y6.1)), (8, .box [vS x7.Key, vB x7.Has, vS x7.Text]), (9, vI r8.1), (10, vB r8.2), (20, .d (.list 3 (List.map encImage p1))), (21, vI (p1.length : Int)), (22, vI y6.2)] (by kernel_rfl) <| OWk.done (by kernel_rfl) <| thenS_n <| SW.block <| SW.seq <| SW.regionK <| OWk.sg 63 H [] [6, 8, 9, 10, 20, 21, 22, 36] 3 [(6, .own 3 (List.map encImage y6.1)), (8, .box [vS x7.Key, vB x7.Has, vS x7.Text]), (9, vI r8.1), (10, vB r8.2), (20, .d (.list 3 (List.map encImage p1))), (21, vI (p1.length : Int)), (22, vI y6.2), (36, vB x7.Has)] (by kernel_rfl) <| OWk.mg 63 H [6, 8, 9, 10, 20, 21, 22, 38] 2 x7.Has (fun b => (sp 63 [(6, .own 3 (List.map encImage y6.1)), (8, .box [vS x7.Key, vB x7.Has, vS x7.Text]), (9, vI r8.1), (10, vB r8.2), (20, .d (.list 3 (List.map encImage p1))), (21, vI (p1.length : Int)), (22, vI y6.2), (36, vB b)] H)) (fun b => [(6, .own 3 (List.map encImage y6.1)), (8, .box [vS x7.Key, vB x7.Has, vS x7.Text]), (9, vI r8.1), (10, vB r8.2), (20, .d (.list 3 (List.map encImage p1))), (21, vI (p1.length : Int)), (22, vI y6.2), (38, vB (b && r8.2))]) (by kernel_rfl) (by kernel_rfl) (by kernel_rfl) <| OWk.sg 63 H [] [6, 8, 9, 10, 20, 21, 22, 33] 1 [(6, .own 3 (List.map encImage y6.1)), (8, .box [vS x7.Key, vB x7.Has, vS x7.Text]), (9, vI r8.1), (10, vB r8.2), (20, .d (.list 3 (List.map encImage p1))), (21, vI (p1.length : Int)), (22, vI y6.2), (33, vB (x7.Has && r8.2))] (by kernel_rfl) <| OWk.done (by kernel_rfl) <| thenS_n ?_
          refine SW.condB (b := (x7.Has && r8.2)) (by kernel_rfl) (fun hc => ?_) (fun hc => ?_)
          · replace h := bif_t hc h
            refine SW.regionK <| OWk.on 63 H (d := some 39) (s := .als 6) [6, 8, 9, 20, 21, 22, 39] [(6, .own 3 (List.map encImage y6.1)), (8, .box [vS x7.Key, vB x7.Has, vS x7.Text]), (9, vI r8.1), (20, .d (.list 3 (List.map encImage p1))), (21, vI (p1.length : Int)), (22, vI y6.2), (39, .als 6)] (BAt.als (s := 6) (by kernel_rfl)) (by kernel_rfl) <| OWk.sg 63 H [] [6, 20, 21, 22, 39, 40, 41] 2 [(6, .own 3 (List.map encImage y6.1)), (20, .d (.list 3 (List.map encImage p1))), (21, vI (p1.length : Int)), (22, vI y6.2), (39, .als 6), (40, vI r8.1), (41, .d (.agg [.str x7.Key, .bool x7.Has, .str x7.Text]))] (by kernel_rfl) ?_
            obtain ⟨x9, hx, h⟩ := bind_inv h
            refine OWk.on 63 H (d := some 42) (s := .ep 6 3 (Int.toNat r8.1)) [6, 20, 21, 22, 41, 42] [(6, .own 3 (List.map encImage y6.1)), (20, .d (.list 3 (List.map encImage p1))), (21, vI (p1.length : Int)), (22, vI y6.2), (41, .d (.agg [.str x7.Key, .bool x7.Has, .str x7.Text])), (42, .ep 6 3 (Int.toNat r8.1))] (BAt.ep (enc := encImage) (xs := y6.1) hx (by kernel_rfl)) (by kernel_rfl) ?_
            obtain ⟨hk, h⟩ := chk_inv h
            refine OWk.sep (s := 6) (n := 3) (j := (Int.toNat r8.1)) (enc := encImage) (xs := y6.1) (x := x7) (p := none) 63 H [6, 20, 21, 22] [(6, .own 3 (List.map encImage (List.set y6.1 (Int.toNat r8.1) x7))), (20, .d (.list 3 (List.map encImage p1))), (21, vI (p1.length : Int)), (22, vI y6.2)] hk (by kernel_rfl) (by kernel_rfl) <| OWk.done (by kernel_rfl) <| blockS_n <| blockS_n <| thenS_n <| SW.regionK <| OWk.sg 63 H [] [6, 20, 21, 22] 2 [(6, .own 3 (List.map encImage (List.set y6.1 (Int.toNat r8.1) x7))), (20, .d (.list 3 (List.map encImage p1))), (21, vI (p1.length : Int)), (22, vI (IntKind.wrap .i64 (y6.2 + 1)))] (by kernel_rfl) <| OWk.done (by kernel_rfl) ?_
            cases h
            exact ⟨((List.set y6.1 (Int.toNat r8.1) x7), (IntKind.wrap .i64 (y6.2 + 1))), rfl, by kernel_rfl⟩
          · replace h := bif_f hc h
            refine SW.seq <| SW.regionK <| OWk.sg 63 H [] [6, 8, 9, 10, 20, 21, 22, 43] 3 [(6, .own 3 (List.map encImage y6.1)), (8, .box [vS x7.Key, vB x7.Has, vS x7.Text]), (9, vI r8.1), (10, vB r8.2), (20, .d (.list 3 (List.map encImage p1))), (21, vI (p1.length : Int)), (22, vI y6.2), (43, vB x7.Has)] (by kernel_rfl) <| OWk.done (by kernel_rfl) <| thenS_n ?_
            refine SW.condB (b := x7.Has) (by kernel_rfl) (fun hc => ?_) (fun hc => ?_)
            · replace h := bif_t hc h
              refine SW.regionK <| OWk.sg 63 H [46] [20, 21, 22, 46, 47, 49] 4 [(20, .d (.list 3 (List.map encImage p1))), (21, vI (p1.length : Int)), (22, vI y6.2), (46, .own 3 (List.map encImage y6.1)), (47, vI r8.1), (49, .own 3 (List.map encImage [x7]))] (by kernel_rfl) <| OWk.fz 63 H 49 [20, 21, 22, 46, 47, 49] [(20, .d (.list 3 (List.map encImage p1))), (21, vI (p1.length : Int)), (22, vI y6.2), (46, .own 3 (List.map encImage y6.1)), (47, vI r8.1), (49, .d (.list 3 (List.map encImage [x7])))] (by kernel_rfl) ?_
              obtain ⟨r10, hr, h⟩ := bind_inv h
              refine OWk.cl 63 H (d := some 50) (ls := []) (gs := [(46, 0)]) [0] [20, 21, 22, 50] [(20, .d (.list 3 (List.map encImage p1))), (21, vI (p1.length : Int)), (22, vI y6.2), (50, .own 3 (List.map encImage r10))] (slices_Insert_ok hr) (by kernel_rfl) (by kernel_rfl) (by kernel_rfl) <| OWk.sg 63 H [46] [6, 20, 21, 22] 1 [(6, .own 3 (List.map encImage r10)), (20, .d (.list 3 (List.map encImage p1))), (21, vI (p1.length : Int)), (22, vI y6.2)] (by kernel_rfl) <| OWk.done (by kernel_rfl) <| blockS_n <| blockS_n <| thenS_n <| SW.regionK <| OWk.sg 63 H [] [6, 20, 21, 22] 2 [(6, .own 3 (List.map encImage r10)), (20, .d (.list 3 (List.map encImage p1))), (21, vI (p1.length : Int)), (22, vI (IntKind.wrap .i64 (y6.2 + 1)))] (by kernel_rfl) <| OWk.done (by kernel_rfl) ?_
              cases h
              exact ⟨(r10, (IntKind.wrap .i64 (y6.2 + 1))), rfl, by kernel_rfl⟩
            · replace h := bif_f hc h
              refine SW.seq <| SW.regionK <| OWk.sg 63 H [] [6, 9, 20, 21, 22, 51] 2 [(6, .own 3 (List.map encImage y6.1)), (9, vI r8.1), (20, .d (.list 3 (List.map encImage p1))), (21, vI (p1.length : Int)), (22, vI y6.2), (51, vB r8.2)] (by kernel_rfl) <| OWk.done (by kernel_rfl) <| thenS_n ?_
              refine SW.condB (b := r8.2) (by kernel_rfl) (fun hc => ?_) (fun hc => ?_)
              · replace h := bif_t hc h
                refine SW.regionK <| OWk.sg 63 H [53] [20, 21, 22, 53, 54, 56] 4 [(20, .d (.list 3 (List.map encImage p1))), (21, vI (p1.length : Int)), (22, vI y6.2), (53, .own 3 (List.map encImage y6.1)), (54, vI r8.1), (56, vI (IntKind.wrap .i64 (r8.1 + 1)))] (by kernel_rfl) ?_
                obtain ⟨r11, hr, h⟩ := bind_inv h
                refine OWk.cl 63 H (d := some 57) (ls := []) (gs := [(53, 0)]) [0] [20, 21, 22, 57] [(20, .d (.list 3 (List.map encImage p1))), (21, vI (p1.length : Int)), (22, vI y6.2), (57, .own 3 (List.map encImage r11))] (slices_Delete_ok hr) (by kernel_rfl) (by kernel_rfl) (by kernel_rfl) <| OWk.sg 63 H [53] [6, 20, 21, 22] 1 [(6, .own 3 (List.map encImage r11)), (20, .d (.list 3 (List.map encImage p1))), (21, vI (p1.length : Int)), (22, vI y6.2)] (by kernel_rfl) <| OWk.done (by kernel_rfl) <| blockS_n <| blockS_n <| thenS_n <| SW.regionK <| OWk.sg 63 H [] [6, 20, 21, 22] 2 [(6, .own 3 (List.map encImage r11)), (20, .d (.list 3 (List.map encImage p1))), (21, vI (p1.length : Int)), (22, vI (IntKind.wrap .i64 (y6.2 + 1)))] (by kernel_rfl) <| OWk.done (by kernel_rfl) ?_
                cases h
                exact ⟨(r11, (IntKind.wrap .i64 (y6.2 + 1))), rfl, by kernel_rfl⟩
              · replace h := bif_f hc h
                refine SW.skip <| blockS_n <| blockS_n <| thenS_n <| SW.regionK <| OWk.sg 63 H [] [6, 20, 21, 22] 2 [(6, .own 3 (List.map encImage y6.1)), (20, .d (.list 3 (List.map encImage p1))), (21, vI (p1.length : Int)), (22, vI (IntKind.wrap .i64 (y6.2 + 1)))] (by kernel_rfl) <| OWk.done (by kernel_rfl) ?_
                cases h
                exact ⟨(y6.1, (IntKind.wrap .i64 (y6.2 + 1))), rfl, by kernel_rfl⟩
        · replace h := bif_f hc h
          refine SW.kp 63 H [6] [(6, .own 3 (List.map encImage y6.1))] (by kernel_rfl) <| SW.exit <| thenS_e ?_
          cases h
          refine thenS_e ?_
          exact ⟨_, rfl, ⟨rfl, rfl⟩⟩
      · rintro _ _ ⟨rfl, rfl⟩
        refine blockS_hit <| thenS_n <| SW.seq <| SW.seq <| SW.regionK <| OWk.sg 63 H [] [6, 59] 1 [(6, .own 3 (List.map encImage v13)), (59, .lent (.slot 6) 3 (List.map encImage v13))] (by kernel_rfl) <| OWk.on 63 H (d := some 60) [6, 60] [(6, .own 3 (List.map encImage v13)), (60, vI (v13.length : Int))] (BAt.len (enc := encImage) (xs := v13) (by kernel_rfl)) (by kernel_rfl) <| OWk.sg 63 H [] [6, 61] 1 [(6, .own 3 (List.map encImage v13)), (61, vB (decide ((v13.length : Int) > 500)))] (by kernel_rfl) <| OWk.done (by kernel_rfl) <| thenS_n ?_
        refine SW.condB (b := (decide ((v13.length : Int) > 500))) (by kernel_rfl) (fun hc => ?_) (fun hc => ?_)
        · replace h := bif_t hc h
          refine SW.seq <| SW.regionK <| OWk.sg 63 H [] [4, 5] 2 [(4, .own 3 (List.map encImage ([] : List Image))), (5, vI 4)] (by kernel_rfl) <| OWk.done (by kernel_rfl) <| thenS_n <| SW.ret <| thenS_r ?_
          cases h
          exact EndQ.ret [] (by kernel_rfl) rfl
        · replace h := bif_f hc h
          refine SW.skip <| thenS_n <| SW.seq <| SW.regionK <| OWk.sg 63 H [62] [4, 5] 3 [(4, .own 3 (List.map encImage v13)), (5, vI 0)] (by kernel_rfl) <| OWk.done (by kernel_rfl) <| thenS_n <| SW.ret ?_
          cases h
          exact EndQ.ret [] (by kernel_rfl) rfl
  · refine SW.regionK <| OWk.sg 63 H [] [0, 1, 11] 1 [(0, .d (.list 3 (List.map encImage p0))), (1, .d (.list 3 (List.map encImage p1))), (11, .d (.list 3 (List.map encImage p0)))] (by kernel_rfl) ?_
    obtain ⟨r3, hr, h⟩ := bind_inv h
    refine OWk.cl 63 H (d := some 12) (ls := []) (gs := []) [] [0, 1, 12] [(0, .d (.list 3 (List.map encImage p0))), (1, .d (.list 3 (List.map encImage p1))), (12, vB r3)] (j_ordered_ok hr) (by kernel_rfl) (by kernel_rfl) (by kernel_rfl) <| OWk.sg 63 H [] [0, 1, 14] 2 [(0, .d (.list 3 (List.map encImage p0))), (1, .d (.list 3 (List.map encImage p1))), (14, vB (!r3))] (by kernel_rfl) ?_
    refine OWk.case (!r3) (fun b => (sp 63 [(0, .d (.list 3 (List.map encImage p0))), (1, .d (.list 3 (List.map encImage p1))), (14, vB b)] H)) (by kernel_rfl) (fun hc => ?_) (fun hc => ?_)
    · replace h := bif_t hc h
      refine OWk.sg 63 H [] [0, 1, 17] 3 [(0, .d (.list 3 (List.map encImage p0))), (1, .d (.list 3 (List.map encImage p1))), (17, vB true)] (by kernel_rfl) <| OWk.done (by kernel_rfl) ?_
      exact ⟨true, [], by kernel_rfl, h⟩
    · replace h := bif_f hc h
      refine OWk.sg 63 H [] [0, 1, 14, 15] 1 [(0, .d (.list 3 (List.map encImage p0))), (1, .d (.list 3 (List.map encImage p1))), (14, vB false), (15, .d (.list 3 (List.map encImage p1)))] (by kernel_rfl) ?_
      obtain ⟨r4, hr, h⟩ := bind_inv h
      refine OWk.cl 63 H (d := some 16) (ls := []) (gs := []) [] [0, 1, 14, 16] [(0, .d (.list 3 (List.map encImage p0))), (1, .d (.list 3 (List.map encImage p1))), (14, vB false), (16, vB r4)] (slices_ContainsFunc_43_ok hr) (by kernel_rfl) (by kernel_rfl) (by kernel_rfl) <| OWk.sg 63 H [] [0, 1, 17] 1 [(0, .d (.list 3 (List.map encImage p0))), (1, .d (.list 3 (List.map encImage p1))), (17, vB r4)] (by kernel_rfl) <| OWk.done (by kernel_rfl) ?_
      exact ⟨r4, [], by kernel_rfl, h⟩

noncomputable def j_State (fuel : Nat) (p0 : (List Image)) (p1 : (List Note)) : Option ((List Image) × Int) :=
  (j_ordered fuel p0).bind fun r1 =>
  bif (!r1) then
    some (([] : List Image), 1)
  else
    (j_Redo fuel p1 0).bind fun r2 =>
    bif (r2.2 != 0) then
      some (([] : List Image), r2.2)
    else
      (j_Apply fuel p0 r2.1).bind fun r3 =>
      some (r3.1, r3.2)

theorem j_State_ok {fuel : Nat} {p0 : (List Image)} {p1 : (List Note)} {r : (List Image) × Int} (h : j_State fuel p0 p1 = some r) : PC Try.prog 14 [.d (.list 3 (List.map encImage p0)), .d (.list 5 (List.map encNote p1))] (.tup [.own 3 (List.map encImage r.1), vI r.2]) := by
  refine PC.of_SW Try.func14 rfl fun H => ?_
  unfold j_State at h
  refine SW.kp 24 H [0, 1] [(0, .d (.list 3 (List.map encImage p0))), (1, .d (.list 5 (List.map encNote p1)))] (by kernel_rfl) <| SW.seq <| SW.regionK <| OWk.sg 24 H [] [0, 1] 2 [(0, .d (.list 3 (List.map encImage p0))), (1, .d (.list 5 (List.map encNote p1)))] (by kernel_rfl) <| OWk.done (by kernel_rfl) <| thenS_n <| SW.seq <| SW.seq <| SW.regionK <| OWk.sg 24 H [] [0, 1, 8] 1 [(0, .d (.list 3 (List.map encImage p0))), (1, .d (.list 5 (List.map encNote p1))), (8, .d (.list 3 (List.map encImage p0)))] (by kernel_rfl) ?_
  obtain ⟨r1, hr, h⟩ := bind_inv h
  refine OWk.cl 24 H (d := some 9) (ls := []) (gs := []) [] [0, 1, 9] [(0, .d (.list 3 (List.map encImage p0))), (1, .d (.list 5 (List.map encNote p1))), (9, vB r1)] (j_ordered_ok hr) (by kernel_rfl) (by kernel_rfl) (by kernel_rfl) <| OWk.sg 24 H [] [0, 1, 10] 1 [(0, .d (.list 3 (List.map encImage p0))), (1, .d (.list 5 (List.map encNote p1))), (10, vB (!r1))] (by kernel_rfl) <| OWk.done (by kernel_rfl) <| thenS_n ?_
  refine SW.condB (b := (!r1)) (by kernel_rfl) (fun hc => ?_) (fun hc => ?_)
  · replace h := bif_t hc h
    refine SW.seq <| SW.regionK <| OWk.sg 24 H [] [4, 5] 2 [(4, .own 3 (List.map encImage ([] : List Image))), (5, vI 1)] (by kernel_rfl) <| OWk.done (by kernel_rfl) <| thenS_n <| SW.ret <| thenS_r ?_
    cases h
    exact EndQ.ret [] (by kernel_rfl) rfl
  · replace h := bif_f hc h
    refine SW.skip <| thenS_n <| SW.seq <| SW.regionK <| OWk.sg 24 H [] [0, 12] 1 [(0, .d (.list 3 (List.map encImage p0))), (12, .d (.list 5 (List.map encNote p1)))] (by kernel_rfl) ?_
    obtain ⟨r2, hr, h⟩ := bind_inv h
    refine OWk.cl 24 H (d := some 13) (ls := []) (gs := []) [] [0, 13] [(0, .d (.list 3 (List.map encImage p0))), (13, .tup [.own 3 (List.map encImage r2.1), vI r2.2])] (j_Redo_ok hr) (by kernel_rfl) (by kernel_rfl) (by kernel_rfl) <| OWk.sg 24 H [] [0, 6, 7] 5 [(0, .d (.list 3 (List.map encImage p0))), (6, .own 3 (List.map encImage r2.1)), (7, vI r2.2)] (by kernel_rfl) <| OWk.done (by kernel_rfl) <| thenS_n <| SW.seq <| SW.seq <| SW.regionK <| OWk.sg 24 H [] [0, 6, 7, 17] 2 [(0, .d (.list 3 (List.map encImage p0))), (6, .own 3 (List.map encImage r2.1)), (7, vI r2.2), (17, vB (r2.2 != 0))] (by kernel_rfl) <| OWk.done (by kernel_rfl) <| thenS_n ?_
    refine SW.condB (b := (r2.2 != 0)) (by kernel_rfl) (fun hc => ?_) (fun hc => ?_)
    · replace h := bif_t hc h
      refine SW.seq <| SW.regionK <| OWk.sg 24 H [] [4, 5] 3 [(4, .own 3 (List.map encImage ([] : List Image))), (5, vI r2.2)] (by kernel_rfl) <| OWk.done (by kernel_rfl) <| thenS_n <| SW.ret <| thenS_r ?_
      cases h
      exact EndQ.ret [] (by kernel_rfl) rfl
    · replace h := bif_f hc h
      refine SW.skip <| thenS_n <| SW.seq <| SW.regionK <| OWk.sg 24 H [20] [19, 20] 2 [(19, .d (.list 3 (List.map encImage p0))), (20, .own 3 (List.map encImage r2.1))] (by kernel_rfl) <| OWk.fz 24 H 20 [19, 20] [(19, .d (.list 3 (List.map encImage p0))), (20, .d (.list 3 (List.map encImage r2.1)))] (by kernel_rfl) ?_
      obtain ⟨r3, hr, h⟩ := bind_inv h
      refine OWk.cl 24 H (d := some 21) (ls := []) (gs := []) [] [21] [(21, .tup [.own 3 (List.map encImage r3.1), vI r3.2])] (j_Apply_ok hr) (by kernel_rfl) (by kernel_rfl) (by kernel_rfl) <| OWk.sg 24 H [20] [4, 5] 4 [(4, .own 3 (List.map encImage r3.1)), (5, vI r3.2)] (by kernel_rfl) <| OWk.done (by kernel_rfl) <| thenS_n <| SW.ret ?_
      cases h
      exact EndQ.ret [] (by kernel_rfl) rfl

noncomputable def l_awake (fuel : Nat) : Option (Bool) :=
  (j_State fuel [] [(⟨1, 1, [], false, []⟩ : Note), (⟨2, 1, [120], false, []⟩ : Note), (⟨3, 1, [120], true, [97]⟩ : Note), (⟨5, 1, [], false, []⟩ : Note)]).bind fun r1 =>
  bif (r1.2 == 0) then
    bif ((r1.1.length : Int) == 1) then
      (idx r1.1 0).bind fun x2 =>
      bif (x2.Key == [120]) then
        (idx r1.1 0).bind fun x3 =>
        some (x3.Text == [97])
      else
        some false
    else
      some false
  else
    some false

theorem l_awake_ok {fuel : Nat} {r : Bool} (h : l_awake fuel = some r) : PC Try.prog 12 [] (vB r) := by
  refine PC.of_SW Try.func12 rfl fun H => ?_
  unfold l_awake at h
  refine SW.kp 33 H [] [] (by kernel_rfl) <| SW.seq <| SW.regionK <| OWk.sg 33 H [] [] 1 [] (by kernel_rfl) <| OWk.done (by kernel_rfl) <| thenS_n <| SW.seq <| SW.regionK <| OWk.sg 33 H [] [8] 5 [(8, .own 5 (List.map encNote [(⟨1, 1, [], false, []⟩ : Note), (⟨2, 1, [120], false, []⟩ : Note), (⟨3, 1, [120], true, [97]⟩ : Note), (⟨5, 1, [], false, []⟩ : Note)]))] (by kernel_rfl) <| OWk.fz 33 H 8 [8] [(8, .d (.list 5 (List.map encNote [(⟨1, 1, [], false, []⟩ : Note), (⟨2, 1, [120], false, []⟩ : Note), (⟨3, 1, [120], true, [97]⟩ : Note), (⟨5, 1, [], false, []⟩ : Note)])))] (by kernel_rfl) ?_
  obtain ⟨r1, hr, h⟩ := bind_inv h
  refine OWk.cl 33 H (d := some 9) (ls := []) (gs := []) [] [9] [(9, .tup [.own 3 (List.map encImage r1.1), vI r1.2])] (j_State_ok hr) (by kernel_rfl) (by kernel_rfl) (by kernel_rfl) <| OWk.sg 33 H [] [1, 2] 5 [(1, .own 3 (List.map encImage r1.1)), (2, vI r1.2)] (by kernel_rfl) <| OWk.done (by kernel_rfl) <| thenS_n <| SW.seq <| SW.regionK <| OWk.sg 33 H [] [1, 14] 3 [(1, .own 3 (List.map encImage r1.1)), (14, vB (r1.2 == 0))] (by kernel_rfl) ?_
  refine OWk.case (r1.2 == 0) (fun b => (sp 33 [(1, .own 3 (List.map encImage r1.1)), (14, vB b)] H)) (by kernel_rfl) (fun hc => ?_) (fun hc => ?_)
  · replace h := bif_t hc h
    refine OWk.sg 33 H [] [1, 14, 15] 1 [(1, .own 3 (List.map encImage r1.1)), (14, vB true), (15, .lent (.slot 1) 3 (List.map encImage r1.1))] (by kernel_rfl) <| OWk.on 33 H (d := some 16) [1, 14, 16] [(1, .own 3 (List.map encImage r1.1)), (14, vB true), (16, vI (r1.1.length : Int))] (BAt.len (enc := encImage) (xs := r1.1) (by kernel_rfl)) (by kernel_rfl) <| OWk.sg 33 H [] [1, 19] 3 [(1, .own 3 (List.map encImage r1.1)), (19, vB ((r1.1.length : Int) == 1))] (by kernel_rfl) ?_
    refine OWk.case ((r1.1.length : Int) == 1) (fun b => (sp 33 [(1, .own 3 (List.map encImage r1.1)), (19, vB b)] H)) (by kernel_rfl) (fun hc => ?_) (fun hc => ?_)
    · replace h := bif_t hc h
      refine OWk.sg 33 H [] [1, 19, 20] 1 [(1, .own 3 (List.map encImage r1.1)), (19, vB true), (20, .lent (.slot 1) 3 (List.map encImage r1.1))] (by kernel_rfl) ?_
      obtain ⟨x2, hx, h⟩ := bind_inv h
      refine OWk.on 33 H (d := some 21) (s := lendP (some (.slot 1)) (Go.Sh.D.cells (encImage x2))) [1, 19, 21] [(1, .own 3 (List.map encImage r1.1)), (19, vB true), (21, .lptr (.slot 1) [.str x2.Key, .bool x2.Has, .str x2.Text])] (BAt.index (n := 3) hx (by kernel_rfl)) (by kernel_rfl) <| OWk.sg 33 H [] [1, 26] 5 [(1, .own 3 (List.map encImage r1.1)), (26, vB (x2.Key == [120]))] (by kernel_rfl) ?_
      refine OWk.case (x2.Key == [120]) (fun b => (sp 33 [(1, .own 3 (List.map encImage r1.1)), (26, vB b)] H)) (by kernel_rfl) (fun hc => ?_) (fun hc => ?_)
      · replace h := bif_t hc h
        refine OWk.sg 33 H [27] [26, 27] 1 [(26, vB true), (27, .own 3 (List.map encImage r1.1))] (by kernel_rfl) ?_
        obtain ⟨x3, hx, h⟩ := bind_inv h
        refine OWk.on 33 H (d := some 28) (s := lendP (some (.slot 27)) (Go.Sh.D.cells (encImage x3))) [26, 28] [(26, vB true), (28, .lptr (.slot 27) [.str x3.Key, .bool x3.Has, .str x3.Text])] (BAt.index (n := 3) hx (by kernel_rfl)) (by kernel_rfl) <| OWk.sg 33 H [27] [0] 5 [(0, vB (x3.Text == [97]))] (by kernel_rfl) <| OWk.done (by kernel_rfl) <| thenS_n <| SW.ret ?_
        cases h
        exact EndQ.ret [] (by kernel_rfl) rfl
      · replace h := bif_f hc h
        refine OWk.sg 33 H [27] [0] 7 [(0, vB false)] (by kernel_rfl) <| OWk.done (by kernel_rfl) <| thenS_n <| SW.ret ?_
        cases h
        exact EndQ.ret [] (by kernel_rfl) rfl
    · replace h := bif_f hc h
      refine OWk.sg 33 H [27] [0] 14 [(0, vB false)] (by kernel_rfl) <| OWk.done (by kernel_rfl) <| thenS_n <| SW.ret ?_
      cases h
      exact EndQ.ret [] (by kernel_rfl) rfl
  · replace h := bif_f hc h
    refine OWk.sg 33 H [27] [0] 19 [(0, vB false)] (by kernel_rfl) <| OWk.done (by kernel_rfl) <| thenS_n <| SW.ret ?_
    cases h
    exact EndQ.ret [] (by kernel_rfl) rfl

def j_since_l1 (fuel : Nat) (p0 : (List Note)) (p1 : Int) (y1 : Int × Bool × Int) : Option ((Int × Bool × Int) ⊕ (Int × Bool)) :=
  bif (decide (y1.2.2 < (p0.length : Int))) then
    (idx p0 y1.2.2).bind fun x2 =>
    bif ((x2.Unit != p1) || (x2.Kind == 6)) then
      some (.inl (y1.1, y1.2.1, (IntKind.wrap .i64 (y1.2.2 + 1))))
    else
      bif (x2.Kind == 1) then
        some (.inl (y1.2.2, true, (IntKind.wrap .i64 (y1.2.2 + 1))))
      else
        bif (x2.Kind == 4) then
          some (.inl (y1.2.2, true, (IntKind.wrap .i64 (y1.2.2 + 1))))
        else
          bif (x2.Kind == 5) then
            some (.inl (y1.1, false, (IntKind.wrap .i64 (y1.2.2 + 1))))
          else
            bif (x2.Kind == 7) then
              some (.inl (y1.1, false, (IntKind.wrap .i64 (y1.2.2 + 1))))
            else
              some (.inl (y1.1, y1.2.1, (IntKind.wrap .i64 (y1.2.2 + 1))))
  else
    some (.inr (y1.1, y1.2.1))

def j_since (fuel : Nat) (p0 : (List Note)) (p1 : Int) : Option (Int × Bool) :=
  (iter (j_since_l1 fuel p0 p1) fuel (0, false, 0)).bind fun v4 =>
  some (v4.1, v4.2)

theorem j_since_ok {fuel : Nat} {p0 : (List Note)} {p1 : Int} {r : Int × Bool} (h : j_since fuel p0 p1 = some r) : PC Try.prog 66 [.d (.list 5 (List.map encNote p0)), vI p1] (.tup [vI r.1, vB r.2]) := by
  refine PC.of_SW Try.func66 rfl fun H => ?_
  unfold j_since at h
  refine SW.kp 38 H [0, 1] [(0, .d (.list 5 (List.map encNote p0))), (1, vI p1)] (by kernel_rfl) <| SW.seq <| SW.regionK <| OWk.sg 38 H [] [0, 1] 2 [(0, .d (.list 5 (List.map encNote p0))), (1, vI p1)] (by kernel_rfl) <| OWk.done (by kernel_rfl) <| thenS_n <| SW.seq <| SW.regionK <| OWk.sg 38 H [] [0, 1, 6, 7] 2 [(0, .d (.list 5 (List.map encNote p0))), (1, vI p1), (6, vI 0), (7, vB false)] (by kernel_rfl) <| OWk.done (by kernel_rfl) <| thenS_n <| SW.seq <| SW.seq <| SW.regionK <| OWk.sg 38 H [] [1, 6, 7, 10] 1 [(1, vI p1), (6, vI 0), (7, vB false), (10, .d (.list 5 (List.map encNote p0)))] (by kernel_rfl) <| OWk.on 38 H (d := some 11) [1, 6, 7, 10, 11] [(1, vI p1), (6, vI 0), (7, vB false), (10, .d (.list 5 (List.map encNote p0))), (11, vI (p0.length : Int))] (BAt.len (enc := encNote) (xs := p0) (by kernel_rfl)) (by kernel_rfl) <| OWk.sg 38 H [] [1, 6, 7, 10, 11, 12] 1 [(1, vI p1), (6, vI 0), (7, vB false), (10, .d (.list 5 (List.map encNote p0))), (11, vI (p0.length : Int)), (12, vI 0)] (by kernel_rfl) <| OWk.done (by kernel_rfl) <| thenS_n <| SW.block ?_
  obtain ⟨v4, hit, h⟩ := bind_inv h
  refine SW.it 38 H [1, 6, 7, 10, 11, 12] (fun y1 => [(1, vI p1), (6, vI y1.1), (7, vB y1.2.1), (10, .d (.list 5 (List.map encNote p0))), (11, vI (p0.length : Int)), (12, vI y1.2.2)]) (fun v4 e s => (e = .exit 0 ∧ s = (sp 38 [(6, vI v4.1), (7, vB v4.2)] H))) hit (by kernel_rfl) (fun y1 o h => ?_) ?_
  · unfold j_since_l1 at h
    refine SW.seq <| SW.regionK <| OWk.sg 38 H [] [1, 6, 7, 10, 11, 12, 13] 1 [(1, vI p1), (6, vI y1.1), (7, vB y1.2.1), (10, .d (.list 5 (List.map encNote p0))), (11, vI (p0.length : Int)), (12, vI y1.2.2), (13, vB (decide (y1.2.2 < (p0.length : Int))))] (by kernel_rfl) <| OWk.done (by kernel_rfl) <| thenS_n <| SW.seq ?_
    refine SW.condB (b := (decide (y1.2.2 < (p0.length : Int)))) (by kernel_rfl) (fun hc => ?_) (fun hc => ?_)
    · replace h := bif_t hc h
      refine SW.skip <| thenS_n <| SW.seq <| SW.block <| SW.seq <| SW.regionK <| OWk.sg 38 H [] [1, 6, 7, 10, 11, 12, 14] 1 [(1, vI p1), (6, vI y1.1), (7, vB y1.2.1), (10, .d (.list 5 (List.map encNote p0))), (11, vI (p0.length : Int)), (12, vI y1.2.2), (14, vI y1.2.2)] (by kernel_rfl) ?_
      obtain ⟨x2, hx, h⟩ := bind_inv h
      refine OWk.on 38 H (d := some 15) (s := lendP none (Go.Sh.D.cells (encNote x2))) [1, 6, 7, 10, 11, 12, 14, 15] [(1, vI p1), (6, vI y1.1), (7, vB y1.2.1), (10, .d (.list 5 (List.map encNote p0))), (11, vI (p0.length : Int)), (12, vI y1.2.2), (14, vI y1.2.2), (15, .d (.dptr [.int .i64 x2.Kind, .int .i64 x2.Unit, .str x2.Key, .bool x2.Has, .str x2.Text]))] (BAt.index (n := 5) hx (by kernel_rfl)) (by kernel_rfl) <| OWk.sg 38 H [] [1, 6, 7, 8, 9, 10, 11, 12] 4 [(1, vI p1), (6, vI y1.1), (7, vB y1.2.1), (8, vI y1.2.2), (9, .box [vI x2.Kind, vI x2.Unit, vS x2.Key, vB x2.Has, vS x2.Text]), (10, .d (.list 5 (List.map encNote p0))), (11, vI (p0.length : Int)), (12, vI y1.2.2)] (by kernel_rfl) <| OWk.done (by kernel_rfl) <| thenS_n <| SW.seq <| SW.seq <| SW.regionK <| OWk.sg 38 H [] [1, 6, 7, 8, 9, 10, 11, 12, 21] 5 [(1, vI p1), (6, vI y1.1), (7, vB y1.2.1), (8, vI y1.2.2), (9, .box [vI x2.Kind, vI x2.Unit, vS x2.Key, vB x2.Has, vS x2.Text]), (10, .d (.list 5 (List.map encNote p0))), (11, vI (p0.length : Int)), (12, vI y1.2.2), (21, vB (x2.Unit != p1))] (by kernel_rfl) <| OWk.mg 38 H [1, 6, 7, 8, 9, 10, 11, 12, 25] 4 (x2.Unit != p1) (fun b => (sp 38 [(1, vI p1), (6, vI y1.1), (7, vB y1.2.1), (8, vI y1.2.2), (9, .box [vI x2.Kind, vI x2.Unit, vS x2.Key, vB x2.Has, vS x2.Text]), (10, .d (.list 5 (List.map encNote p0))), (11, vI (p0.length : Int)), (12, vI y1.2.2), (21, vB b)] H)) (fun b => [(1, vI p1), (6, vI y1.1), (7, vB y1.2.1), (8, vI y1.2.2), (9, .box [vI x2.Kind, vI x2.Unit, vS x2.Key, vB x2.Has, vS x2.Text]), (10, .d (.list 5 (List.map encNote p0))), (11, vI (p0.length : Int)), (12, vI y1.2.2), (25, vB (b || (x2.Kind == 6)))]) (by kernel_rfl) (by kernel_rfl) (by kernel_rfl) <| OWk.done (by kernel_rfl) <| thenS_n ?_
      refine SW.condB (b := ((x2.Unit != p1) || (x2.Kind == 6))) (by kernel_rfl) (fun hc => ?_) (fun hc => ?_)
      · replace h := bif_t hc h
        refine SW.exit <| thenS_e <| blockS_hit <| thenS_n <| SW.regionK <| OWk.sg 38 H [] [1, 6, 7, 10, 11, 12] 2 [(1, vI p1), (6, vI y1.1), (7, vB y1.2.1), (10, .d (.list 5 (List.map encNote p0))), (11, vI (p0.length : Int)), (12, vI (IntKind.wrap .i64 (y1.2.2 + 1)))] (by kernel_rfl) <| OWk.done (by kernel_rfl) ?_
        cases h
        exact ⟨(y1.1, y1.2.1, (IntKind.wrap .i64 (y1.2.2 + 1))), rfl, by kernel_rfl⟩
      · replace h := bif_f hc h
        refine SW.skip <| thenS_n <| SW.seq <| SW.regionK <| OWk.sg 38 H [] [1, 6, 7, 8, 10, 11, 12, 27] 2 [(1, vI p1), (6, vI y1.1), (7, vB y1.2.1), (8, vI y1.2.2), (10, .d (.list 5 (List.map encNote p0))), (11, vI (p0.length : Int)), (12, vI y1.2.2), (27, vI x2.Kind)] (by kernel_rfl) <| OWk.done (by kernel_rfl) <| thenS_n <| SW.block <| SW.seq <| SW.seq <| SW.regionK <| OWk.sg 38 H [] [1, 6, 7, 8, 10, 11, 12, 27, 28] 2 [(1, vI p1), (6, vI y1.1), (7, vB y1.2.1), (8, vI y1.2.2), (10, .d (.list 5 (List.map encNote p0))), (11, vI (p0.length : Int)), (12, vI y1.2.2), (27, vI x2.Kind), (28, vB (x2.Kind == 1))] (by kernel_rfl) <| OWk.done (by kernel_rfl) <| thenS_n ?_
        refine SW.case (x2.Kind == 1) (fun b => (sp 38 [(1, vI p1), (6, vI y1.1), (7, vB y1.2.1), (8, vI y1.2.2), (10, .d (.list 5 (List.map encNote p0))), (11, vI (p0.length : Int)), (12, vI y1.2.2), (27, vI x2.Kind), (28, vB b)] H)) (by kernel_rfl) (fun hc => ?_) (fun hc => ?_)
        · replace h := bif_t hc h
          refine SW.condT (by kernel_rfl) <| SW.skip <| thenS_n <| SW.condT (by kernel_rfl) <| SW.regionK <| OWk.sg 38 H [] [1, 6, 7, 10, 11, 12] 3 [(1, vI p1), (6, vI y1.2.2), (7, vB true), (10, .d (.list 5 (List.map encNote p0))), (11, vI (p0.length : Int)), (12, vI y1.2.2)] (by kernel_rfl) <| OWk.done (by kernel_rfl) <| blockS_n <| blockS_n <| thenS_n <| SW.regionK <| OWk.sg 38 H [] [1, 6, 7, 10, 11, 12] 2 [(1, vI p1), (6, vI y1.2.2), (7, vB true), (10, .d (.list 5 (List.map encNote p0))), (11, vI (p0.length : Int)), (12, vI (IntKind.wrap .i64 (y1.2.2 + 1)))] (by kernel_rfl) <| OWk.done (by kernel_rfl) ?_
          cases h
          exact ⟨(y1.2.2, true, (IntKind.wrap .i64 (y1.2.2 + 1))), rfl, by kernel_rfl⟩
        · replace h := bif_f hc h
          refine SW.condF (by kernel_rfl) <| SW.regionK <| OWk.sg 38 H [] [1, 6, 7, 8, 10, 11, 12, 27, 28] 2 [(1, vI p1), (6, vI y1.1), (7, vB y1.2.1), (8, vI y1.2.2), (10, .d (.list 5 (List.map encNote p0))), (11, vI (p0.length : Int)), (12, vI y1.2.2), (27, vI x2.Kind), (28, vB (x2.Kind == 4))] (by kernel_rfl) <| OWk.done (by kernel_rfl) <| thenS_n ?_
          refine SW.condB (b := (x2.Kind == 4)) (by kernel_rfl) (fun hc => ?_) (fun hc => ?_)
          · replace h := bif_t hc h
            refine SW.regionK <| OWk.sg 38 H [] [1, 6, 7, 10, 11, 12] 3 [(1, vI p1), (6, vI y1.2.2), (7, vB true), (10, .d (.list 5 (List.map encNote p0))), (11, vI (p0.length : Int)), (12, vI y1.2.2)] (by kernel_rfl) <| OWk.done (by kernel_rfl) <| blockS_n <| blockS_n <| thenS_n <| SW.regionK <| OWk.sg 38 H [] [1, 6, 7, 10, 11, 12] 2 [(1, vI p1), (6, vI y1.2.2), (7, vB true), (10, .d (.list 5 (List.map encNote p0))), (11, vI (p0.length : Int)), (12, vI (IntKind.wrap .i64 (y1.2.2 + 1)))] (by kernel_rfl) <| OWk.done (by kernel_rfl) ?_
            cases h
            exact ⟨(y1.2.2, true, (IntKind.wrap .i64 (y1.2.2 + 1))), rfl, by kernel_rfl⟩
          · replace h := bif_f hc h
            refine SW.seq <| SW.seq <| SW.regionK <| OWk.sg 38 H [] [1, 6, 7, 10, 11, 12, 27, 32] 2 [(1, vI p1), (6, vI y1.1), (7, vB y1.2.1), (10, .d (.list 5 (List.map encNote p0))), (11, vI (p0.length : Int)), (12, vI y1.2.2), (27, vI x2.Kind), (32, vB (x2.Kind == 5))] (by kernel_rfl) <| OWk.done (by kernel_rfl) <| thenS_n ?_
            refine SW.case (x2.Kind == 5) (fun b => (sp 38 [(1, vI p1), (6, vI y1.1), (7, vB y1.2.1), (10, .d (.list 5 (List.map encNote p0))), (11, vI (p0.length : Int)), (12, vI y1.2.2), (27, vI x2.Kind), (32, vB b)] H)) (by kernel_rfl) (fun hc => ?_) (fun hc => ?_)
            · replace h := bif_t hc h
              refine SW.condT (by kernel_rfl) <| SW.skip <| thenS_n <| SW.condT (by kernel_rfl) <| SW.regionK <| OWk.sg 38 H [] [1, 6, 7, 10, 11, 12] 1 [(1, vI p1), (6, vI y1.1), (7, vB false), (10, .d (.list 5 (List.map encNote p0))), (11, vI (p0.length : Int)), (12, vI y1.2.2)] (by kernel_rfl) <| OWk.done (by kernel_rfl) <| blockS_n <| blockS_n <| thenS_n <| SW.regionK <| OWk.sg 38 H [] [1, 6, 7, 10, 11, 12] 2 [(1, vI p1), (6, vI y1.1), (7, vB false), (10, .d (.list 5 (List.map encNote p0))), (11, vI (p0.length : Int)), (12, vI (IntKind.wrap .i64 (y1.2.2 + 1)))] (by kernel_rfl) <| OWk.done (by kernel_rfl) ?_
              cases h
              exact ⟨(y1.1, false, (IntKind.wrap .i64 (y1.2.2 + 1))), rfl, by kernel_rfl⟩
            · replace h := bif_f hc h
              refine SW.condF (by kernel_rfl) <| SW.regionK <| OWk.sg 38 H [] [1, 6, 7, 10, 11, 12, 32] 2 [(1, vI p1), (6, vI y1.1), (7, vB y1.2.1), (10, .d (.list 5 (List.map encNote p0))), (11, vI (p0.length : Int)), (12, vI y1.2.2), (32, vB (x2.Kind == 7))] (by kernel_rfl) <| OWk.done (by kernel_rfl) <| thenS_n ?_
              refine SW.condB (b := (x2.Kind == 7)) (by kernel_rfl) (fun hc => ?_) (fun hc => ?_)
              · replace h := bif_t hc h
                refine SW.regionK <| OWk.sg 38 H [] [1, 6, 7, 10, 11, 12] 1 [(1, vI p1), (6, vI y1.1), (7, vB false), (10, .d (.list 5 (List.map encNote p0))), (11, vI (p0.length : Int)), (12, vI y1.2.2)] (by kernel_rfl) <| OWk.done (by kernel_rfl) <| blockS_n <| blockS_n <| thenS_n <| SW.regionK <| OWk.sg 38 H [] [1, 6, 7, 10, 11, 12] 2 [(1, vI p1), (6, vI y1.1), (7, vB false), (10, .d (.list 5 (List.map encNote p0))), (11, vI (p0.length : Int)), (12, vI (IntKind.wrap .i64 (y1.2.2 + 1)))] (by kernel_rfl) <| OWk.done (by kernel_rfl) ?_
                cases h
                exact ⟨(y1.1, false, (IntKind.wrap .i64 (y1.2.2 + 1))), rfl, by kernel_rfl⟩
              · replace h := bif_f hc h
                refine SW.skip <| blockS_n <| blockS_n <| thenS_n <| SW.regionK <| OWk.sg 38 H [] [1, 6, 7, 10, 11, 12] 2 [(1, vI p1), (6, vI y1.1), (7, vB y1.2.1), (10, .d (.list 5 (List.map encNote p0))), (11, vI (p0.length : Int)), (12, vI (IntKind.wrap .i64 (y1.2.2 + 1)))] (by kernel_rfl) <| OWk.done (by kernel_rfl) ?_
                cases h
                exact ⟨(y1.1, y1.2.1, (IntKind.wrap .i64 (y1.2.2 + 1))), rfl, by kernel_rfl⟩
    · replace h := bif_f hc h
      refine SW.kp 38 H [6, 7] [(6, vI y1.1), (7, vB y1.2.1)] (by kernel_rfl) <| SW.exit <| thenS_e ?_
      cases h
      refine thenS_e ?_
      exact ⟨_, rfl, ⟨rfl, rfl⟩⟩
  · rintro _ _ ⟨rfl, rfl⟩
    refine blockS_hit <| thenS_n <| SW.seq <| SW.regionK <| OWk.sg 38 H [] [4, 5] 4 [(4, vI v4.1), (5, vB v4.2)] (by kernel_rfl) <| OWk.done (by kernel_rfl) <| thenS_n <| SW.ret ?_
    cases h
    exact EndQ.ret [] (by kernel_rfl) rfl

noncomputable def j_asked (fuel : Nat) (p0 : (List Note)) (p1 : Int) : Option (Int × Int) :=
  (j_right fuel p0).bind fun r1 =>
  bif (r1 != 0) then
    some (0, r1)
  else
    (j_unit fuel p1).bind fun r2 =>
    bif (!r2) then
      some (0, 7)
    else
      (j_since fuel p0 p1).bind fun r3 =>
      bif (!r3.2) then
        some (0, 8)
      else
        some (r3.1, 0)

theorem j_asked_ok {fuel : Nat} {p0 : (List Note)} {p1 : Int} {r : Int × Int} (h : j_asked fuel p0 p1 = some r) : PC Try.prog 37 [.d (.list 5 (List.map encNote p0)), vI p1] (.tup [vI r.1, vI r.2]) := by
  refine PC.of_SW Try.func37 rfl fun H => ?_
  unfold j_asked at h
  refine SW.kp 26 H [0, 1] [(0, .d (.list 5 (List.map encNote p0))), (1, vI p1)] (by kernel_rfl) <| SW.seq <| SW.regionK <| OWk.sg 26 H [] [0, 1] 2 [(0, .d (.list 5 (List.map encNote p0))), (1, vI p1)] (by kernel_rfl) <| OWk.done (by kernel_rfl) <| thenS_n <| SW.seq <| SW.seq <| SW.regionK <| OWk.sg 26 H [] [0, 1, 9] 1 [(0, .d (.list 5 (List.map encNote p0))), (1, vI p1), (9, .d (.list 5 (List.map encNote p0)))] (by kernel_rfl) ?_
  obtain ⟨r1, hr, h⟩ := bind_inv h
  refine OWk.cl 26 H (d := some 10) (ls := []) (gs := []) [] [0, 1, 10] [(0, .d (.list 5 (List.map encNote p0))), (1, vI p1), (10, vI r1)] (j_right_ok hr) (by kernel_rfl) (by kernel_rfl) (by kernel_rfl) <| OWk.sg 26 H [] [0, 1, 6] 1 [(0, .d (.list 5 (List.map encNote p0))), (1, vI p1), (6, vI r1)] (by kernel_rfl) <| OWk.done (by kernel_rfl) <| thenS_n <| SW.seq <| SW.regionK <| OWk.sg 26 H [] [0, 1, 6, 12] 2 [(0, .d (.list 5 (List.map encNote p0))), (1, vI p1), (6, vI r1), (12, vB (r1 != 0))] (by kernel_rfl) <| OWk.done (by kernel_rfl) <| thenS_n ?_
  refine SW.condB (b := (r1 != 0)) (by kernel_rfl) (fun hc => ?_) (fun hc => ?_)
  · replace h := bif_t hc h
    refine SW.seq <| SW.regionK <| OWk.sg 26 H [] [4, 5] 3 [(4, vI 0), (5, vI r1)] (by kernel_rfl) <| OWk.done (by kernel_rfl) <| thenS_n <| SW.ret <| thenS_r ?_
    cases h
    exact EndQ.ret [] (by kernel_rfl) rfl
  · replace h := bif_f hc h
    refine SW.skip <| thenS_n <| SW.seq <| SW.seq <| SW.regionK <| OWk.sg 26 H [] [0, 1, 14] 1 [(0, .d (.list 5 (List.map encNote p0))), (1, vI p1), (14, vI p1)] (by kernel_rfl) ?_
    obtain ⟨r2, hr, h⟩ := bind_inv h
    refine OWk.cl 26 H (d := some 15) (ls := []) (gs := []) [] [0, 1, 15] [(0, .d (.list 5 (List.map encNote p0))), (1, vI p1), (15, vB r2)] (j_unit_ok hr) (by kernel_rfl) (by kernel_rfl) (by kernel_rfl) <| OWk.sg 26 H [] [0, 1, 16] 1 [(0, .d (.list 5 (List.map encNote p0))), (1, vI p1), (16, vB (!r2))] (by kernel_rfl) <| OWk.done (by kernel_rfl) <| thenS_n ?_
    refine SW.condB (b := (!r2)) (by kernel_rfl) (fun hc => ?_) (fun hc => ?_)
    · replace h := bif_t hc h
      refine SW.seq <| SW.regionK <| OWk.sg 26 H [] [4, 5] 2 [(4, vI 0), (5, vI 7)] (by kernel_rfl) <| OWk.done (by kernel_rfl) <| thenS_n <| SW.ret <| thenS_r ?_
      cases h
      exact EndQ.ret [] (by kernel_rfl) rfl
    · replace h := bif_f hc h
      refine SW.skip <| thenS_n <| SW.seq <| SW.regionK <| OWk.sg 26 H [] [18, 19] 2 [(18, .d (.list 5 (List.map encNote p0))), (19, vI p1)] (by kernel_rfl) ?_
      obtain ⟨r3, hr, h⟩ := bind_inv h
      refine OWk.cl 26 H (d := some 20) (ls := []) (gs := []) [] [20] [(20, .tup [vI r3.1, vB r3.2])] (j_since_ok hr) (by kernel_rfl) (by kernel_rfl) (by kernel_rfl) <| OWk.sg 26 H [] [7, 8] 5 [(7, vI r3.1), (8, vB r3.2)] (by kernel_rfl) <| OWk.done (by kernel_rfl) <| thenS_n <| SW.seq <| SW.seq <| SW.regionK <| OWk.sg 26 H [] [7, 24] 2 [(7, vI r3.1), (24, vB (!r3.2))] (by kernel_rfl) <| OWk.done (by kernel_rfl) <| thenS_n ?_
      refine SW.condB (b := (!r3.2)) (by kernel_rfl) (fun hc => ?_) (fun hc => ?_)
      · replace h := bif_t hc h
        refine SW.seq <| SW.regionK <| OWk.sg 26 H [] [4, 5] 2 [(4, vI 0), (5, vI 8)] (by kernel_rfl) <| OWk.done (by kernel_rfl) <| thenS_n <| SW.ret <| thenS_r ?_
        cases h
        exact EndQ.ret [] (by kernel_rfl) rfl
      · replace h := bif_f hc h
        refine SW.skip <| thenS_n <| SW.seq <| SW.regionK <| OWk.sg 26 H [] [4, 5] 3 [(4, vI r3.1), (5, vI 0)] (by kernel_rfl) <| OWk.done (by kernel_rfl) <| thenS_n <| SW.ret ?_
        cases h
        exact EndQ.ret [] (by kernel_rfl) rfl

def j_Undo_l1 (fuel : Nat) (p0 : (List Note)) (p1 : Int) (r1 : Int × Int) (q2 : (Hp × Nat)) (y3 : (List Image) × Int × Hp) : Option (((List Image) × Int × Hp) ⊕ ((List Image) × Hp)) :=
  bif (decide (y3.2.1 < ((sl p0 r1.1 (p0.length : Int)).length : Int))) then
    (idx (sl p0 r1.1 (p0.length : Int)) y3.2.1).bind fun x4 =>
    letJ (fun (j5 : Bool) =>
      bif j5 then
        (hMput kS cB y3.2.2 (some q2.2) x4.Key true).bind fun H8 =>
        chk (decide ((y3.1 ++ [(⟨x4.Key, x4.Has, x4.Text⟩ : Image)]).length ≤ room)) <|
        some (.inl ((y3.1 ++ [(⟨x4.Key, x4.Has, x4.Text⟩ : Image)]), (IntKind.wrap .i64 (y3.2.1 + 1)), H8))
      else
        some (.inl (y3.1, (IntKind.wrap .i64 (y3.2.1 + 1)), y3.2.2))) fun jp6 =>
    bif ((x4.Unit == p1) && (x4.Kind == 2)) then
      (hLook kS cB y3.2.2 (some q2.2) x4.Key).bind fun q7 =>
      jp6 (!(q7.getD false))
    else
      jp6 false
  else
    some (.inr (y3.1, y3.2.2))

noncomputable def j_Undo (fuel : Nat) (p0 : (List Note)) (p1 : Int) : Option ((List Image) × Int) :=
  (j_asked fuel p0 p1).bind fun r1 =>
  bif (r1.2 != 0) then
    some (([] : List Image), r1.2)
  else
    (hNew [] (.map [])).bind fun q2 =>
    chk (slOk p0 r1.1 (p0.length : Int)) <|
    (iter (j_Undo_l1 fuel p0 p1 r1 q2) fuel (([] : List Image), 0, q2.1)).bind fun v10 =>
    (slices_Reverse fuel v10.1).bind fun r11 =>
    some (r11, 0)

theorem j_Undo_ok {fuel : Nat} {p0 : (List Note)} {p1 : Int} {r : (List Image) × Int} (h : j_Undo fuel p0 p1 = some r) : PC Try.prog 16 [.d (.list 5 (List.map encNote p0)), vI p1] (.tup [.own 3 (List.map encImage r.1), vI r.2]) := by
  refine PC.of_localSW Try.func16 rfl (by simp [noPtrSV, noPtr, noPtrs, vI, vB, vS, noPtrs_map (f := encNote) encNote_np]) (by simp [noPtrSV, noPtr, noPtrs, vI, vB, vS, noPtrs_map (f := encImage) encImage_np]) ?_
  unfold j_Undo at h
  refine SW.kp 63 [] [0, 1] [(0, .d (.list 5 (List.map encNote p0))), (1, vI p1)] (by kernel_rfl) <| SW.seq <| SW.regionK <| OWk.sg 63 [] [] [0, 1] 2 [(0, .d (.list 5 (List.map encNote p0))), (1, vI p1)] (by kernel_rfl) <| OWk.done (by kernel_rfl) <| thenS_n <| SW.seq <| SW.regionK <| OWk.sg 63 [] [] [0, 1, 13, 14] 2 [(0, .d (.list 5 (List.map encNote p0))), (1, vI p1), (13, .d (.list 5 (List.map encNote p0))), (14, vI p1)] (by kernel_rfl) ?_
  obtain ⟨r1, hr, h⟩ := bind_inv h
  refine OWk.cl 63 [] (d := some 15) (ls := []) (gs := []) [] [0, 1, 15] [(0, .d (.list 5 (List.map encNote p0))), (1, vI p1), (15, .tup [vI r1.1, vI r1.2])] (j_asked_ok hr) (by kernel_rfl) (by kernel_rfl) (by kernel_rfl) <| OWk.sg 63 [] [] [0, 1, 6, 7] 5 [(0, .d (.list 5 (List.map encNote p0))), (1, vI p1), (6, vI r1.1), (7, vI r1.2)] (by kernel_rfl) <| OWk.done (by kernel_rfl) <| thenS_n <| SW.seq <| SW.seq <| SW.regionK <| OWk.sg 63 [] [] [0, 1, 6, 7, 19] 2 [(0, .d (.list 5 (List.map encNote p0))), (1, vI p1), (6, vI r1.1), (7, vI r1.2), (19, vB (r1.2 != 0))] (by kernel_rfl) <| OWk.done (by kernel_rfl) <| thenS_n ?_
  refine SW.condB (b := (r1.2 != 0)) (by kernel_rfl) (fun hc => ?_) (fun hc => ?_)
  · replace h := bif_t hc h
    refine SW.seq <| SW.regionK <| OWk.sg 63 [] [] [4, 5] 3 [(4, .own 3 (List.map encImage ([] : List Image))), (5, vI r1.2)] (by kernel_rfl) <| OWk.done (by kernel_rfl) <| thenS_n <| SW.ret <| thenS_r ?_
    cases h
    exact EndL.ret [] (by kernel_rfl)
  · replace h := bif_f hc h
    refine SW.skip <| thenS_n <| SW.seq <| SW.regionK <| OWk.sg 63 [] [] [0, 1, 6, 8] 1 [(0, .d (.list 5 (List.map encNote p0))), (1, vI p1), (6, vI r1.1), (8, .own 3 (List.map encImage ([] : List Image)))] (by kernel_rfl) <| OWk.done (by kernel_rfl) <| thenS_n <| SW.seq <| SW.regionK ?_
    obtain ⟨q2, hq, h⟩ := bind_inv h
    refine OWk.hnew 63 q2.1 (d := some 21) (b := true) [] [0, 1, 6, 8, 21] [(0, .d (.list 5 (List.map encNote p0))), (1, vI p1), (6, vI r1.1), (8, .own 3 (List.map encImage ([] : List Image))), (21, .d (.map q2.2))] hq (by kernel_rfl) rfl (by kernel_rfl) <| OWk.sg 63 q2.1 [] [0, 1, 6, 8, 9] 1 [(0, .d (.list 5 (List.map encNote p0))), (1, vI p1), (6, vI r1.1), (8, .own 3 (List.map encImage ([] : List Image))), (9, .d (.map q2.2))] (by kernel_rfl) <| OWk.done (by kernel_rfl) <| thenS_n <| SW.seq <| SW.seq <| SW.regionK <| OWk.sg 63 q2.1 [] [1, 8, 9, 22, 23] 2 [(1, vI p1), (8, .own 3 (List.map encImage ([] : List Image))), (9, .d (.map q2.2)), (22, .d (.list 5 (List.map encNote p0))), (23, vI r1.1)] (by kernel_rfl) ?_
    obtain ⟨hk, h⟩ := chk_inv h
    refine OWk.on 63 q2.1 (d := some 24) (s := lendL none 5 (List.map encNote (sl p0 r1.1 (p0.length : Int)))) [1, 8, 9, 24] [(1, vI p1), (8, .own 3 (List.map encImage ([] : List Image))), (9, .d (.map q2.2)), (24, .d (.list 5 (List.map encNote (sl p0 r1.1 (p0.length : Int)))))] (BAt.slice hk (by kernel_rfl)) (by kernel_rfl) <| OWk.on 63 q2.1 (d := some 25) [1, 8, 9, 24, 25] [(1, vI p1), (8, .own 3 (List.map encImage ([] : List Image))), (9, .d (.map q2.2)), (24, .d (.list 5 (List.map encNote (sl p0 r1.1 (p0.length : Int))))), (25, vI ((sl p0 r1.1 (p0.length : Int)).length : Int))] (BAt.len (enc := encNote) (xs := (sl p0 r1.1 (p0.length : Int))) (by kernel_rfl)) (by kernel_rfl) <| OWk.sg 63 q2.1 [] [1, 8, 9, 24, 25, 26] 1 [(1, vI p1), (8, .own 3 (List.map encImage ([] : List Image))), (9, .d (.map q2.2)), (24, .d (.list 5 (List.map encNote (sl p0 r1.1 (p0.length : Int))))), (25, vI ((sl p0 r1.1 (p0.length : Int)).length : Int)), (26, vI 0)] (by kernel_rfl) <| OWk.done (by kernel_rfl) <| thenS_n <| SW.block ?_
    obtain ⟨v10, hit, h⟩ := bind_inv h
    refine SW.itH 63 [1, 8, 9, 24, 25, 26] (fun y3 => [(1, vI p1), (8, .own 3 (List.map encImage y3.1)), (9, .d (.map q2.2)), (24, .d (.list 5 (List.map encNote (sl p0 r1.1 (p0.length : Int))))), (25, vI ((sl p0 r1.1 (p0.length : Int)).length : Int)), (26, vI y3.2.1)]) (fun y3 => y3.2.2) (fun v10 e s => (e = .exit 0 ∧ s = (sp 63 [(8, .own 3 (List.map encImage v10.1))] v10.2))) hit (by kernel_rfl) (fun y3 o h => ?_) ?_
    · unfold j_Undo_l1 at h
      refine SW.seq <| SW.regionK <| OWk.sg 63 y3.2.2 [] [1, 8, 9, 24, 25, 26, 27] 1 [(1, vI p1), (8, .own 3 (List.map encImage y3.1)), (9, .d (.map q2.2)), (24, .d (.list 5 (List.map encNote (sl p0 r1.1 (p0.length : Int))))), (25, vI ((sl p0 r1.1 (p0.length : Int)).length : Int)), (26, vI y3.2.1), (27, vB (decide (y3.2.1 < ((sl p0 r1.1 (p0.length : Int)).length : Int))))] (by kernel_rfl) <| OWk.done (by kernel_rfl) <| thenS_n <| SW.seq ?_
      refine SW.condB (b := (decide (y3.2.1 < ((sl p0 r1.1 (p0.length : Int)).length : Int)))) (by kernel_rfl) (fun hc => ?_) (fun hc => ?_)
      · replace h := bif_t hc h
        refine SW.skip <| thenS_n <| SW.seq <| SW.block <| SW.seq <| SW.regionK ?_
        obtain ⟨x4, hx, h⟩ := bind_inv h
        refine OWk.on 63 y3.2.2 (d := some 28) (s := lendP none (Go.Sh.D.cells (encNote x4))) [1, 8, 9, 24, 25, 26, 28] [(1, vI p1), (8, .own 3 (List.map encImage y3.1)), (9, .d (.map q2.2)), (24, .d (.list 5 (List.map encNote (sl p0 r1.1 (p0.length : Int))))), (25, vI ((sl p0 r1.1 (p0.length : Int)).length : Int)), (26, vI y3.2.1), (28, .d (.dptr [.int .i64 x4.Kind, .int .i64 x4.Unit, .str x4.Key, .bool x4.Has, .str x4.Text]))] (BAt.index (n := 5) hx (by kernel_rfl)) (by kernel_rfl) <| OWk.sg 63 y3.2.2 [] [1, 8, 9, 11, 24, 25, 26] 3 [(1, vI p1), (8, .own 3 (List.map encImage y3.1)), (9, .d (.map q2.2)), (11, .box [vI x4.Kind, vI x4.Unit, vS x4.Key, vB x4.Has, vS x4.Text]), (24, .d (.list 5 (List.map encNote (sl p0 r1.1 (p0.length : Int))))), (25, vI ((sl p0 r1.1 (p0.length : Int)).length : Int)), (26, vI y3.2.1)] (by kernel_rfl) <| OWk.done (by kernel_rfl) <| thenS_n ?_
        obtain ⟨jp6, hjjp6, h⟩ := letJ_inv h
        refine SW.jn 63 y3.2.2 [1, 8, 9, 11, 24, 25, 26, 45] (fun (j5 : Bool) => [(1, vI p1), (8, .own 3 (List.map encImage y3.1)), (9, .d (.map q2.2)), (11, .box [vI x4.Kind, vI x4.Unit, vS x4.Key, vB x4.Has, vS x4.Text]), (24, .d (.list 5 (List.map encNote (sl p0 r1.1 (p0.length : Int))))), (25, vI ((sl p0 r1.1 (p0.length : Int)).length : Int)), (26, vI y3.2.1), (45, vB j5)]) (fun v => jp6 v = some o) (fun j5 h => ?_) ?_
        · rw [hjjp6] at h
          refine SW.condB (b := j5) (by kernel_rfl) (fun hc => ?_) (fun hc => ?_)
          · replace h := bif_t hc h
            refine SW.seq <| SW.regionK <| OWk.sg 63 y3.2.2 [] [1, 8, 9, 11, 24, 25, 26, 46, 48] 3 [(1, vI p1), (8, .own 3 (List.map encImage y3.1)), (9, .d (.map q2.2)), (11, .box [vI x4.Kind, vI x4.Unit, vS x4.Key, vB x4.Has, vS x4.Text]), (24, .d (.list 5 (List.map encNote (sl p0 r1.1 (p0.length : Int))))), (25, vI ((sl p0 r1.1 (p0.length : Int)).length : Int)), (26, vI y3.2.1), (46, .d (.map q2.2)), (48, vS x4.Key)] (by kernel_rfl) ?_
            obtain ⟨H8, hx, h⟩ := bind_inv h
            refine OWk.mput 63 H8 (kc := kS) (v := cB) (mm := (some q2.2)) (key := x4.Key) (y := true) [1, 8, 9, 11, 24, 25, 26] [(1, vI p1), (8, .own 3 (List.map encImage y3.1)), (9, .d (.map q2.2)), (11, .box [vI x4.Kind, vI x4.Unit, vS x4.Key, vB x4.Has, vS x4.Text]), (24, .d (.list 5 (List.map encNote (sl p0 r1.1 (p0.length : Int))))), (25, vI ((sl p0 r1.1 (p0.length : Int)).length : Int)), (26, vI y3.2.1)] hx (by kernel_rfl) (by kernel_rfl) <| OWk.done (by kernel_rfl) <| thenS_n <| SW.regionK <| OWk.sg 63 H8 [49] [1, 9, 24, 25, 26, 49, 57] 9 [(1, vI p1), (9, .d (.map q2.2)), (24, .d (.list 5 (List.map encNote (sl p0 r1.1 (p0.length : Int))))), (25, vI ((sl p0 r1.1 (p0.length : Int)).length : Int)), (26, vI y3.2.1), (49, .own 3 (List.map encImage y3.1)), (57, .own 3 (List.map encImage [(⟨x4.Key, x4.Has, x4.Text⟩ : Image)]))] (by kernel_rfl) ?_
            obtain ⟨hk, h⟩ := chk_inv h
            refine OWk.app 63 H8 (s := 49) (d := 58) (w := 3) [1, 9, 24, 25, 26, 58] (zs := List.map encImage (y3.1 ++ [(⟨x4.Key, x4.Has, x4.Text⟩ : Image)])) [(1, vI p1), (9, .d (.map q2.2)), (24, .d (.list 5 (List.map encNote (sl p0 r1.1 (p0.length : Int))))), (25, vI ((sl p0 r1.1 (p0.length : Int)).length : Int)), (26, vI y3.2.1), (58, .own 3 (List.map encImage (y3.1 ++ [(⟨x4.Key, x4.Has, x4.Text⟩ : Image)])))] (ys := (List.map encImage [(⟨x4.Key, x4.Has, x4.Text⟩ : Image)])) (by kernel_rfl) (map_append') (room_map hk) (by kernel_rfl) <| OWk.sg 63 H8 [49] [1, 8, 9, 24, 25, 26] 1 [(1, vI p1), (8, .own 3 (List.map encImage (y3.1 ++ [(⟨x4.Key, x4.Has, x4.Text⟩ : Image)]))), (9, .d (.map q2.2)), (24, .d (.list 5 (List.map encNote (sl p0 r1.1 (p0.length : Int))))), (25, vI ((sl p0 r1.1 (p0.length : Int)).length : Int)), (26, vI y3.2.1)] (by kernel_rfl) <| OWk.done (by kernel_rfl) <| blockS_n <| thenS_n <| SW.regionK <| OWk.sg 63 H8 [] [1, 8, 9, 24, 25, 26] 2 [(1, vI p1), (8, .own 3 (List.map encImage (y3.1 ++ [(⟨x4.Key, x4.Has, x4.Text⟩ : Image)]))), (9, .d (.map q2.2)), (24, .d (.list 5 (List.map encNote (sl p0 r1.1 (p0.length : Int))))), (25, vI ((sl p0 r1.1 (p0.length : Int)).length : Int)), (26, vI (IntKind.wrap .i64 (y3.2.1 + 1)))] (by kernel_rfl) <| OWk.done (by kernel_rfl) ?_
            cases h
            exact ⟨((y3.1 ++ [(⟨x4.Key, x4.Has, x4.Text⟩ : Image)]), (IntKind.wrap .i64 (y3.2.1 + 1)), H8), rfl, by kernel_rfl⟩
          · replace h := bif_f hc h
            refine SW.skip <| blockS_n <| thenS_n <| SW.regionK <| OWk.sg 63 y3.2.2 [] [1, 8, 9, 24, 25, 26] 2 [(1, vI p1), (8, .own 3 (List.map encImage y3.1)), (9, .d (.map q2.2)), (24, .d (.list 5 (List.map encNote (sl p0 r1.1 (p0.length : Int))))), (25, vI ((sl p0 r1.1 (p0.length : Int)).length : Int)), (26, vI (IntKind.wrap .i64 (y3.2.1 + 1)))] (by kernel_rfl) <| OWk.done (by kernel_rfl) ?_
            cases h
            exact ⟨(y3.1, (IntKind.wrap .i64 (y3.2.1 + 1)), y3.2.2), rfl, by kernel_rfl⟩
        · refine SW.regionK <| OWk.sg 63 y3.2.2 [] [1, 8, 9, 11, 24, 25, 26, 34] 5 [(1, vI p1), (8, .own 3 (List.map encImage y3.1)), (9, .d (.map q2.2)), (11, .box [vI x4.Kind, vI x4.Unit, vS x4.Key, vB x4.Has, vS x4.Text]), (24, .d (.list 5 (List.map encNote (sl p0 r1.1 (p0.length : Int))))), (25, vI ((sl p0 r1.1 (p0.length : Int)).length : Int)), (26, vI y3.2.1), (34, vB (x4.Unit == p1))] (by kernel_rfl) <| OWk.mg 63 y3.2.2 [1, 8, 9, 11, 24, 25, 26, 38] 4 (x4.Unit == p1) (fun b => (sp 63 [(1, vI p1), (8, .own 3 (List.map encImage y3.1)), (9, .d (.map q2.2)), (11, .box [vI x4.Kind, vI x4.Unit, vS x4.Key, vB x4.Has, vS x4.Text]), (24, .d (.list 5 (List.map encNote (sl p0 r1.1 (p0.length : Int))))), (25, vI ((sl p0 r1.1 (p0.length : Int)).length : Int)), (26, vI y3.2.1), (34, vB b)] y3.2.2)) (fun b => [(1, vI p1), (8, .own 3 (List.map encImage y3.1)), (9, .d (.map q2.2)), (11, .box [vI x4.Kind, vI x4.Unit, vS x4.Key, vB x4.Has, vS x4.Text]), (24, .d (.list 5 (List.map encNote (sl p0 r1.1 (p0.length : Int))))), (25, vI ((sl p0 r1.1 (p0.length : Int)).length : Int)), (26, vI y3.2.1), (38, vB (b && (x4.Kind == 2)))]) (by kernel_rfl) (by kernel_rfl) (by kernel_rfl) <| OWk.sg 63 y3.2.2 [] [1, 8, 9, 11, 24, 25, 26, 39] 1 [(1, vI p1), (8, .own 3 (List.map encImage y3.1)), (9, .d (.map q2.2)), (11, .box [vI x4.Kind, vI x4.Unit, vS x4.Key, vB x4.Has, vS x4.Text]), (24, .d (.list 5 (List.map encNote (sl p0 r1.1 (p0.length : Int))))), (25, vI ((sl p0 r1.1 (p0.length : Int)).length : Int)), (26, vI y3.2.1), (39, vB ((x4.Unit == p1) && (x4.Kind == 2)))] (by kernel_rfl) ?_
          refine OWk.case ((x4.Unit == p1) && (x4.Kind == 2)) (fun b => (sp 63 [(1, vI p1), (8, .own 3 (List.map encImage y3.1)), (9, .d (.map q2.2)), (11, .box [vI x4.Kind, vI x4.Unit, vS x4.Key, vB x4.Has, vS x4.Text]), (24, .d (.list 5 (List.map encNote (sl p0 r1.1 (p0.length : Int))))), (25, vI ((sl p0 r1.1 (p0.length : Int)).length : Int)), (26, vI y3.2.1), (39, vB b)] y3.2.2)) (by kernel_rfl) (fun hc => ?_) (fun hc => ?_)
          · replace h := bif_t hc h
            refine OWk.sg 63 y3.2.2 [] [1, 8, 9, 11, 24, 25, 26, 39, 40, 42] 3 [(1, vI p1), (8, .own 3 (List.map encImage y3.1)), (9, .d (.map q2.2)), (11, .box [vI x4.Kind, vI x4.Unit, vS x4.Key, vB x4.Has, vS x4.Text]), (24, .d (.list 5 (List.map encNote (sl p0 r1.1 (p0.length : Int))))), (25, vI ((sl p0 r1.1 (p0.length : Int)).length : Int)), (26, vI y3.2.1), (39, vB true), (40, .d (.map q2.2)), (42, vS x4.Key)] (by kernel_rfl) ?_
            obtain ⟨q7, hq, h⟩ := bind_inv h
            refine OWk.on 63 y3.2.2 (d := some 43) [1, 8, 9, 11, 24, 25, 26, 39, 43] [(1, vI p1), (8, .own 3 (List.map encImage y3.1)), (9, .d (.map q2.2)), (11, .box [vI x4.Kind, vI x4.Unit, vS x4.Key, vB x4.Has, vS x4.Text]), (24, .d (.list 5 (List.map encNote (sl p0 r1.1 (p0.length : Int))))), (25, vI ((sl p0 r1.1 (p0.length : Int)).length : Int)), (26, vI y3.2.1), (39, vB true), (43, vB (q7.getD false))] (BAt.look (kc := kS) (v := cB) (ok := false) (mm := (some q2.2)) (key := x4.Key) (z := false) hq (by kernel_rfl)) (by kernel_rfl) <| OWk.sg 63 y3.2.2 [] [1, 8, 9, 11, 24, 25, 26, 45] 2 [(1, vI p1), (8, .own 3 (List.map encImage y3.1)), (9, .d (.map q2.2)), (11, .box [vI x4.Kind, vI x4.Unit, vS x4.Key, vB x4.Has, vS x4.Text]), (24, .d (.list 5 (List.map encNote (sl p0 r1.1 (p0.length : Int))))), (25, vI ((sl p0 r1.1 (p0.length : Int)).length : Int)), (26, vI y3.2.1), (45, vB (!(q7.getD false)))] (by kernel_rfl) <| OWk.done (by kernel_rfl) ?_
            exact ⟨(!(q7.getD false)), [], by kernel_rfl, h⟩
          · replace h := bif_f hc h
            refine OWk.sg 63 y3.2.2 [] [1, 8, 9, 11, 24, 25, 26, 45] 6 [(1, vI p1), (8, .own 3 (List.map encImage y3.1)), (9, .d (.map q2.2)), (11, .box [vI x4.Kind, vI x4.Unit, vS x4.Key, vB x4.Has, vS x4.Text]), (24, .d (.list 5 (List.map encNote (sl p0 r1.1 (p0.length : Int))))), (25, vI ((sl p0 r1.1 (p0.length : Int)).length : Int)), (26, vI y3.2.1), (45, vB false)] (by kernel_rfl) <| OWk.done (by kernel_rfl) ?_
            exact ⟨false, [], by kernel_rfl, h⟩
      · replace h := bif_f hc h
        refine SW.kp 63 y3.2.2 [8] [(8, .own 3 (List.map encImage y3.1))] (by kernel_rfl) <| SW.exit <| thenS_e ?_
        cases h
        refine thenS_e ?_
        exact ⟨_, rfl, ⟨rfl, rfl⟩⟩
    · rintro _ _ ⟨rfl, rfl⟩
      refine blockS_hit <| thenS_n <| SW.seq <| SW.regionK <| OWk.on 63 v10.2 (d := some 60) (s := .als 8) [8, 60] [(8, .own 3 (List.map encImage v10.1)), (60, .als 8)] (BAt.als (s := 8) (by kernel_rfl)) (by kernel_rfl) ?_
      obtain ⟨r11, hr, h⟩ := bind_inv h
      refine OWk.ic (s := 8) (p := none) (d := some 61) 63 v10.2 [8] [(8, .own 3 (List.map encImage r11))] (slices_Reverse_ok hr) (by kernel_rfl) (by kernel_rfl) <| OWk.done (by kernel_rfl) <| thenS_n <| SW.seq <| SW.regionK <| OWk.sg 63 v10.2 [62] [4, 5] 3 [(4, .own 3 (List.map encImage r11)), (5, vI 0)] (by kernel_rfl) <| OWk.done (by kernel_rfl) <| thenS_n <| SW.ret ?_
      cases h
      exact EndL.ret [] (by kernel_rfl)

def r_SameImages_l1 (fuel : Nat) (p0 : (List Image)) (p1 : (List Image)) (y1 : Int) : Option ((Int) ⊕ ((Unit) ⊕ ((Bool)))) :=
  bif (decide (y1 < (p0.length : Int))) then
    (idx p0 y1).bind fun x2 =>
    (idx p1 y1).bind fun x3 =>
    bif (!((x2.Key == x3.Key) && ((x2.Has == x3.Has) && ((x2.Text == x3.Text) && true)))) then
      some (.inr (.inr false))
    else
      some (.inl (IntKind.wrap .i64 (y1 + 1)))
  else
    some (.inr (.inl ()))

def r_SameImages (fuel : Nat) (p0 : (List Image)) (p1 : (List Image)) : Option (Bool) :=
  bif ((p0.length : Int) != (p1.length : Int)) then
    some false
  else
    (iter (r_SameImages_l1 fuel p0 p1) fuel 0).bind (Sum.elim (fun v5 =>
      some true) (fun r6 =>
      some r6))

theorem r_SameImages_ok {fuel : Nat} {p0 : (List Image)} {p1 : (List Image)} {r : Bool} (h : r_SameImages fuel p0 p1 = some r) : PC Try.prog 15 [.d (.list 3 (List.map encImage p0)), .d (.list 3 (List.map encImage p1))] (vB r) := by
  refine PC.of_SW Try.func15 rfl fun H => ?_
  unfold r_SameImages at h
  refine SW.kp 26 H [0, 1] [(0, .d (.list 3 (List.map encImage p0))), (1, .d (.list 3 (List.map encImage p1)))] (by kernel_rfl) <| SW.seq <| SW.regionK <| OWk.sg 26 H [] [0, 1] 1 [(0, .d (.list 3 (List.map encImage p0))), (1, .d (.list 3 (List.map encImage p1)))] (by kernel_rfl) <| OWk.done (by kernel_rfl) <| thenS_n <| SW.seq <| SW.seq <| SW.regionK <| OWk.sg 26 H [] [0, 1, 6] 1 [(0, .d (.list 3 (List.map encImage p0))), (1, .d (.list 3 (List.map encImage p1))), (6, .d (.list 3 (List.map encImage p0)))] (by kernel_rfl) <| OWk.on 26 H (d := some 7) [0, 1, 7] [(0, .d (.list 3 (List.map encImage p0))), (1, .d (.list 3 (List.map encImage p1))), (7, vI (p0.length : Int))] (BAt.len (enc := encImage) (xs := p0) (by kernel_rfl)) (by kernel_rfl) <| OWk.sg 26 H [] [0, 1, 7, 8] 1 [(0, .d (.list 3 (List.map encImage p0))), (1, .d (.list 3 (List.map encImage p1))), (7, vI (p0.length : Int)), (8, .d (.list 3 (List.map encImage p1)))] (by kernel_rfl) <| OWk.on 26 H (d := some 9) [0, 1, 7, 9] [(0, .d (.list 3 (List.map encImage p0))), (1, .d (.list 3 (List.map encImage p1))), (7, vI (p0.length : Int)), (9, vI (p1.length : Int))] (BAt.len (enc := encImage) (xs := p1) (by kernel_rfl)) (by kernel_rfl) <| OWk.sg 26 H [] [0, 1, 10] 1 [(0, .d (.list 3 (List.map encImage p0))), (1, .d (.list 3 (List.map encImage p1))), (10, vB ((p0.length : Int) != (p1.length : Int)))] (by kernel_rfl) <| OWk.done (by kernel_rfl) <| thenS_n ?_
  refine SW.condB (b := ((p0.length : Int) != (p1.length : Int))) (by kernel_rfl) (fun hc => ?_) (fun hc => ?_)
  · replace h := bif_t hc h
    refine SW.seq <| SW.regionK <| OWk.sg 26 H [] [4] 1 [(4, vB false)] (by kernel_rfl) <| OWk.done (by kernel_rfl) <| thenS_n <| SW.ret <| thenS_r ?_
    cases h
    exact EndQ.ret [] (by kernel_rfl) rfl
  · replace h := bif_f hc h
    refine SW.skip <| thenS_n <| SW.seq <| SW.seq <| SW.regionK <| OWk.sg 26 H [] [0, 1, 5] 1 [(0, .d (.list 3 (List.map encImage p0))), (1, .d (.list 3 (List.map encImage p1))), (5, vI 0)] (by kernel_rfl) <| OWk.done (by kernel_rfl) <| thenS_n <| SW.block ?_
    obtain ⟨z4, hit, h⟩ := bind_inv h
    refine SW.it 26 H [0, 1, 5] (fun y1 => [(0, .d (.list 3 (List.map encImage p0))), (1, .d (.list 3 (List.map encImage p1))), (5, vI y1)]) (fun b e s => ((∃ v5, b = (.inl v5) ∧ (e = .exit 0 ∧ s = (sp 26 [] H))) ∨ (∃ r6, b = (.inr r6) ∧ (e = .ret ∧ EndQ Try.prog Try.f15.results.toList H (vB r6) .ret s)))) hit (by kernel_rfl) (fun y1 o h => ?_) ?_
    · unfold r_SameImages_l1 at h
      refine SW.seq <| SW.seq <| SW.regionK <| OWk.sg 26 H [] [0, 1, 5, 11, 12] 2 [(0, .d (.list 3 (List.map encImage p0))), (1, .d (.list 3 (List.map encImage p1))), (5, vI y1), (11, vI y1), (12, .d (.list 3 (List.map encImage p0)))] (by kernel_rfl) <| OWk.on 26 H (d := some 13) [0, 1, 5, 11, 13] [(0, .d (.list 3 (List.map encImage p0))), (1, .d (.list 3 (List.map encImage p1))), (5, vI y1), (11, vI y1), (13, vI (p0.length : Int))] (BAt.len (enc := encImage) (xs := p0) (by kernel_rfl)) (by kernel_rfl) <| OWk.sg 26 H [] [0, 1, 5, 14] 1 [(0, .d (.list 3 (List.map encImage p0))), (1, .d (.list 3 (List.map encImage p1))), (5, vI y1), (14, vB (decide (y1 < (p0.length : Int))))] (by kernel_rfl) <| OWk.done (by kernel_rfl) <| thenS_n ?_
      refine SW.condB (b := (decide (y1 < (p0.length : Int)))) (by kernel_rfl) (fun hc => ?_) (fun hc => ?_)
      · replace h := bif_t hc h
        refine SW.skip <| thenS_n <| SW.seq <| SW.block <| SW.seq <| SW.regionDk (by kernel_rfl) (by kernel_rfl) <| OBk.sg 26 H [] [0, 1, 5, 17, 18] 2 [(0, .d (.list 3 (List.map encImage p0))), (1, .d (.list 3 (List.map encImage p1))), (5, vI y1), (17, .d (.list 3 (List.map encImage p0))), (18, vI y1)] (by kernel_rfl) (by kernel_rfl) ?_
        obtain ⟨x2, hx, h⟩ := bind_inv h
        refine OBk.on 26 H (d := some 19) (s := lendP none (Go.Sh.D.cells (encImage x2))) [0, 1, 5, 19] [(0, .d (.list 3 (List.map encImage p0))), (1, .d (.list 3 (List.map encImage p1))), (5, vI y1), (19, .d (.dptr [.str x2.Key, .bool x2.Has, .str x2.Text]))] (by kernel_rfl) (BAt.index (n := 3) hx (by kernel_rfl)) (by kernel_rfl) <| OBk.sg 26 H [] [0, 1, 5, 20, 21, 22] 3 [(0, .d (.list 3 (List.map encImage p0))), (1, .d (.list 3 (List.map encImage p1))), (5, vI y1), (20, .d (.agg [.str x2.Key, .bool x2.Has, .str x2.Text])), (21, .d (.list 3 (List.map encImage p1))), (22, vI y1)] (by kernel_rfl) (by kernel_rfl) ?_
        obtain ⟨x3, hx, h⟩ := bind_inv h
        refine OBk.on 26 H (d := some 23) (s := lendP none (Go.Sh.D.cells (encImage x3))) [0, 1, 5, 20, 23] [(0, .d (.list 3 (List.map encImage p0))), (1, .d (.list 3 (List.map encImage p1))), (5, vI y1), (20, .d (.agg [.str x2.Key, .bool x2.Has, .str x2.Text])), (23, .d (.dptr [.str x3.Key, .bool x3.Has, .str x3.Text]))] (by kernel_rfl) (BAt.index (n := 3) hx (by kernel_rfl)) (by kernel_rfl) <| OBk.sg 26 H [] [0, 1, 5, 25] 2 [(0, .d (.list 3 (List.map encImage p0))), (1, .d (.list 3 (List.map encImage p1))), (5, vI y1), (25, vB (!((x2.Key == x3.Key) && ((x2.Has == x3.Has) && ((x2.Text == x3.Text) && true)))))] (by kernel_rfl) (by kernel_rfl) <| OBk.done (by kernel_rfl) <| thenS_n ?_
        refine SW.condB (b := (!((x2.Key == x3.Key) && ((x2.Has == x3.Has) && ((x2.Text == x3.Text) && true))))) (by kernel_rfl) (fun hc => ?_) (fun hc => ?_)
        · replace h := bif_t hc h
          refine SW.seq <| SW.regionK <| OWk.sg 26 H [] [4] 1 [(4, vB false)] (by kernel_rfl) <| OWk.done (by kernel_rfl) <| thenS_n <| SW.ret <| blockS_r <| thenS_r ?_
          cases h
          refine thenS_r ?_
          exact ⟨_, rfl, .inr (⟨false, rfl, rfl, EndQ.ret [] (by kernel_rfl) rfl⟩)⟩
        · replace h := bif_f hc h
          refine SW.skip <| blockS_n <| thenS_n <| SW.regionK <| OWk.sg 26 H [] [0, 1, 5] 3 [(0, .d (.list 3 (List.map encImage p0))), (1, .d (.list 3 (List.map encImage p1))), (5, vI (IntKind.wrap .i64 (y1 + 1)))] (by kernel_rfl) <| OWk.done (by kernel_rfl) ?_
          cases h
          exact ⟨(IntKind.wrap .i64 (y1 + 1)), rfl, by kernel_rfl⟩
      · replace h := bif_f hc h
        refine SW.kp 26 H [] [] (by kernel_rfl) <| SW.exit <| thenS_e ?_
        cases h
        refine thenS_e ?_
        exact ⟨_, rfl, .inl ⟨(), rfl, rfl, rfl⟩⟩
    · rintro _ _ (⟨v5, rfl, rfl, rfl⟩ | ⟨r6, rfl, rfl, hE⟩)
      · replace h := sum_l h
        refine blockS_hit <| thenS_n <| SW.seq <| SW.regionK <| OWk.sg 26 H [] [4] 1 [(4, vB true)] (by kernel_rfl) <| OWk.done (by kernel_rfl) <| thenS_n <| SW.ret ?_
        cases h
        exact EndQ.ret [] (by kernel_rfl) rfl
      · replace h := sum_r h
        refine blockS_r <| thenS_r ?_
        cases h
        exact hE

def l_JournalUndone_l1 (fuel : Nat) (y8 : (List Image) × (List Note) × Int) (y10 : (List UInt8) × Bool × (List UInt8) × Int × Int × (List UInt8) × Bool × (List UInt8) × Int) : Option (((List UInt8) × Bool × (List UInt8) × Int × Int × (List UInt8) × Bool × (List UInt8) × Int) ⊕ ((List UInt8) × Bool × (List UInt8) × Int × Int × (List UInt8) × Bool × (List UInt8))) :=
  bif (decide (y10.2.2.2.2.2.2.2.2 < (y8.1.length : Int))) then
    (idx y8.1 y10.2.2.2.2.2.2.2.2).bind fun x11 =>
    bif (x11.Key == y10.1) then
      (idx y8.1 y10.2.2.2.2.2.2.2.2).bind fun x12 =>
      some (.inl (y10.1, y10.2.1, y10.2.2.1, y10.2.2.2.1, y10.2.2.2.2.1, y10.2.2.2.2.2.1, true, x12.Text, (IntKind.wrap .i64 (y10.2.2.2.2.2.2.2.2 + 1))))
    else
      some (.inl (y10.1, y10.2.1, y10.2.2.1, y10.2.2.2.1, y10.2.2.2.2.1, y10.2.2.2.2.2.1, y10.2.2.2.2.2.2.1, y10.2.2.2.2.2.2.2.1, (IntKind.wrap .i64 (y10.2.2.2.2.2.2.2.2 + 1))))
  else
    some (.inr (y10.1, y10.2.1, y10.2.2.1, y10.2.2.2.1, y10.2.2.2.2.1, y10.2.2.2.2.2.1, y10.2.2.2.2.2.2.1, y10.2.2.2.2.2.2.2.1))

noncomputable def l_JournalUndone_l2 (fuel : Nat) (p1 : (List Image)) (p2 : Int) (y8 : (List Image) × (List Note) × Int) : Option (((List Image) × (List Note) × Int) ⊕ (((List Image) × (List Note)) ⊕ ((Bool)))) :=
  bif (decide (y8.2.2 < (p1.length : Int))) then
    (idx p1 y8.2.2).bind fun x9 =>
    (iter (l_JournalUndone_l1 fuel y8) fuel (x9.Key, x9.Has, x9.Text, 2, p2, x9.Key, false, [], 0)).bind fun v14 =>
    chk (decide ((y8.2.1 ++ [(⟨v14.2.2.2.1, v14.2.2.2.2.1, v14.2.2.2.2.2.1, v14.2.2.2.2.2.2.1, v14.2.2.2.2.2.2.2⟩ : Note), (⟨3, p2, v14.1, v14.2.1, v14.2.2.1⟩ : Note)]).length ≤ room)) <|
    (j_Apply fuel y8.1 [(⟨v14.1, v14.2.1, v14.2.2.1⟩ : Image)]).bind fun r15 =>
    bif (r15.2 != 0) then
      bif ((r15.2 == 1) || (r15.2 == 4)) then
        (l_awake fuel).bind fun r16 =>
        some (.inr (.inr r16))
      else
        some (.inr (.inr false))
    else
      some (.inl (r15.1, (y8.2.1 ++ [(⟨v14.2.2.2.1, v14.2.2.2.2.1, v14.2.2.2.2.2.1, v14.2.2.2.2.2.2.1, v14.2.2.2.2.2.2.2⟩ : Note), (⟨3, p2, v14.1, v14.2.1, v14.2.2.1⟩ : Note)]), (IntKind.wrap .i64 (y8.2.2 + 1))))
  else
    some (.inr (.inl (y8.1, y8.2.1)))

noncomputable def l_JournalUndone (fuel : Nat) (p0 : (List Image)) (p1 : (List Image)) (p2 : Int) : Option (Bool) :=
  letJ (fun (j1 : Bool) =>
    bif j1 then
      (l_awake fuel).bind fun r5 =>
      some r5
    else
      (r_Apply fuel p0 []).bind fun r6 =>
      bif (r6.2 != 0) then
        (l_awake fuel).bind fun r7 =>
        some r7
      else
        (iter (l_JournalUndone_l2 fuel p1 p2) fuel (r6.1, [(⟨1, p2, [], false, []⟩ : Note)], 0)).bind (Sum.elim (fun v18 =>
          (j_Undo fuel v18.2 p2).bind fun r19 =>
          bif (r19.2 != 0) then
            some false
          else
            (j_Apply fuel v18.1 r19.1).bind fun r20 =>
            bif (r20.2 == 0) then
              (r_SameImages fuel r20.1 p0).bind fun r21 =>
              bif r21 then
                (l_awake fuel).bind fun r22 =>
                some r22
              else
                some false
            else
              some false) (fun r23 =>
          some r23))) fun jp2 =>
  (l_Images fuel p0).bind fun r3 =>
  bif (!r3) then
    jp2 true
  else
    (l_Images fuel p1).bind fun r4 =>
    bif (!r4) then
      jp2 true
    else
      jp2 (((decide ((p1.length : Int) > 25)) || (decide (p2 < 1))) || (decide (p2 > 1000)))

theorem l_JournalUndone_ok {fuel : Nat} {p0 : (List Image)} {p1 : (List Image)} {p2 : Int} {r : Bool} (h : l_JournalUndone fuel p0 p1 p2 = some r) : PC Try.prog 5 [.d (.list 3 (List.map encImage p0)), .d (.list 3 (List.map encImage p1)), vI p2] (vB r) := by
  refine PC.of_SW Try.func5 rfl fun H => ?_
  unfold l_JournalUndone at h
  refine SW.kp 138 H [0, 1, 2] [(0, .d (.list 3 (List.map encImage p0))), (1, .d (.list 3 (List.map encImage p1))), (2, vI p2)] (by kernel_rfl) <| SW.seq <| SW.regionK <| OWk.sg 138 H [] [0, 1, 2] 1 [(0, .d (.list 3 (List.map encImage p0))), (1, .d (.list 3 (List.map encImage p1))), (2, vI p2)] (by kernel_rfl) <| OWk.done (by kernel_rfl) <| thenS_n <| SW.seq ?_
  obtain ⟨jp2, hjjp2, h⟩ := letJ_inv h
  refine SW.jn 138 H [0, 1, 2, 36] (fun (j1 : Bool) => [(0, .d (.list 3 (List.map encImage p0))), (1, .d (.list 3 (List.map encImage p1))), (2, vI p2), (36, vB j1)]) (fun v => jp2 v = some r) (fun j1 h => ?_) ?_
  · rw [hjjp2] at h
    refine SW.condB (b := j1) (by kernel_rfl) (fun hc => ?_) (fun hc => ?_)
    · replace h := bif_t hc h
      refine SW.seq <| SW.regionK ?_
      obtain ⟨r5, hr, h⟩ := bind_inv h
      refine OWk.cl 138 H (d := some 37) (ls := []) (gs := []) [] [37] [(37, vB r5)] (l_awake_ok hr) (by kernel_rfl) (by kernel_rfl) (by kernel_rfl) <| OWk.sg 138 H [] [6] 1 [(6, vB r5)] (by kernel_rfl) <| OWk.done (by kernel_rfl) <| thenS_n <| SW.ret <| thenS_r ?_
      cases h
      exact EndQ.ret [] (by kernel_rfl) rfl
    · replace h := bif_f hc h
      refine SW.skip <| thenS_n <| SW.seq <| SW.regionK <| OWk.sg 138 H [] [0, 1, 2, 39] 1 [(0, .d (.list 3 (List.map encImage p0))), (1, .d (.list 3 (List.map encImage p1))), (2, vI p2), (39, .d (.list 3 (List.map encImage p0)))] (by kernel_rfl) ?_
      obtain ⟨r6, hr, h⟩ := bind_inv h
      refine OWk.cl 138 H (d := some 40) (ls := []) (gs := []) [] [0, 1, 2, 40] [(0, .d (.list 3 (List.map encImage p0))), (1, .d (.list 3 (List.map encImage p1))), (2, vI p2), (40, .tup [.own 3 (List.map encImage r6.1), vI r6.2])] (r_Apply_ok hr) (by kernel_rfl) (by kernel_rfl) (by kernel_rfl) <| OWk.sg 138 H [] [0, 1, 2, 7, 8] 5 [(0, .d (.list 3 (List.map encImage p0))), (1, .d (.list 3 (List.map encImage p1))), (2, vI p2), (7, .own 3 (List.map encImage r6.1)), (8, vI r6.2)] (by kernel_rfl) <| OWk.done (by kernel_rfl) <| thenS_n <| SW.seq <| SW.seq <| SW.regionK <| OWk.sg 138 H [] [0, 1, 2, 7, 44] 2 [(0, .d (.list 3 (List.map encImage p0))), (1, .d (.list 3 (List.map encImage p1))), (2, vI p2), (7, .own 3 (List.map encImage r6.1)), (44, vB (r6.2 != 0))] (by kernel_rfl) <| OWk.done (by kernel_rfl) <| thenS_n ?_
      refine SW.condB (b := (r6.2 != 0)) (by kernel_rfl) (fun hc => ?_) (fun hc => ?_)
      · replace h := bif_t hc h
        refine SW.seq <| SW.regionK ?_
        obtain ⟨r7, hr, h⟩ := bind_inv h
        refine OWk.cl 138 H (d := some 45) (ls := []) (gs := []) [] [45] [(45, vB r7)] (l_awake_ok hr) (by kernel_rfl) (by kernel_rfl) (by kernel_rfl) <| OWk.sg 138 H [] [6] 1 [(6, vB r7)] (by kernel_rfl) <| OWk.done (by kernel_rfl) <| thenS_n <| SW.ret <| thenS_r ?_
        cases h
        exact EndQ.ret [] (by kernel_rfl) rfl
      · replace h := bif_f hc h
        refine SW.skip <| thenS_n <| SW.seq <| SW.regionK <| OWk.sg 138 H [] [0, 1, 2, 7, 9] 4 [(0, .d (.list 3 (List.map encImage p0))), (1, .d (.list 3 (List.map encImage p1))), (2, vI p2), (7, .own 3 (List.map encImage r6.1)), (9, .own 5 (List.map encNote [(⟨1, p2, [], false, []⟩ : Note)]))] (by kernel_rfl) <| OWk.done (by kernel_rfl) <| thenS_n <| SW.seq <| SW.seq <| SW.regionK <| OWk.sg 138 H [] [0, 1, 2, 7, 9, 10] 1 [(0, .d (.list 3 (List.map encImage p0))), (1, .d (.list 3 (List.map encImage p1))), (2, vI p2), (7, .own 3 (List.map encImage r6.1)), (9, .own 5 (List.map encNote [(⟨1, p2, [], false, []⟩ : Note)])), (10, vI 0)] (by kernel_rfl) <| OWk.done (by kernel_rfl) <| thenS_n <| SW.block ?_
        obtain ⟨z17, hit, h⟩ := bind_inv h
        refine SW.it 138 H [0, 1, 2, 7, 9, 10] (fun y8 => [(0, .d (.list 3 (List.map encImage p0))), (1, .d (.list 3 (List.map encImage p1))), (2, vI p2), (7, .own 3 (List.map encImage y8.1)), (9, .own 5 (List.map encNote y8.2.1)), (10, vI y8.2.2)]) (fun b e s => ((∃ v18, b = (.inl v18) ∧ (e = .exit 0 ∧ s = (sp 138 [(0, .d (.list 3 (List.map encImage p0))), (2, vI p2), (7, .own 3 (List.map encImage v18.1)), (9, .own 5 (List.map encNote v18.2))] H))) ∨ (∃ r23, b = (.inr r23) ∧ (e = .ret ∧ EndQ Try.prog Try.f5.results.toList H (vB r23) .ret s)))) hit (by kernel_rfl) (fun y8 o h => ?_) ?_
        · unfold l_JournalUndone_l2 at h
          refine SW.seq <| SW.seq <| SW.regionK <| OWk.sg 138 H [] [0, 1, 2, 7, 9, 10, 49, 50] 2 [(0, .d (.list 3 (List.map encImage p0))), (1, .d (.list 3 (List.map encImage p1))), (2, vI p2), (7, .own 3 (List.map encImage y8.1)), (9, .own 5 (List.map encNote y8.2.1)), (10, vI y8.2.2), (49, vI y8.2.2), (50, .d (.list 3 (List.map encImage p1)))] (by kernel_rfl) <| OWk.on 138 H (d := some 51) [0, 1, 2, 7, 9, 10, 49, 51] [(0, .d (.list 3 (List.map encImage p0))), (1, .d (.list 3 (List.map encImage p1))), (2, vI p2), (7, .own 3 (List.map encImage y8.1)), (9, .own 5 (List.map encNote y8.2.1)), (10, vI y8.2.2), (49, vI y8.2.2), (51, vI (p1.length : Int))] (BAt.len (enc := encImage) (xs := p1) (by kernel_rfl)) (by kernel_rfl) <| OWk.sg 138 H [] [0, 1, 2, 7, 9, 10, 52] 1 [(0, .d (.list 3 (List.map encImage p0))), (1, .d (.list 3 (List.map encImage p1))), (2, vI p2), (7, .own 3 (List.map encImage y8.1)), (9, .own 5 (List.map encNote y8.2.1)), (10, vI y8.2.2), (52, vB (decide (y8.2.2 < (p1.length : Int))))] (by kernel_rfl) <| OWk.done (by kernel_rfl) <| thenS_n ?_
          refine SW.condB (b := (decide (y8.2.2 < (p1.length : Int)))) (by kernel_rfl) (fun hc => ?_) (fun hc => ?_)
          · replace h := bif_t hc h
            refine SW.skip <| thenS_n <| SW.seq <| SW.block <| SW.seq <| SW.regionK <| OWk.sg 138 H [] [0, 1, 2, 7, 9, 10, 55, 56] 2 [(0, .d (.list 3 (List.map encImage p0))), (1, .d (.list 3 (List.map encImage p1))), (2, vI p2), (7, .own 3 (List.map encImage y8.1)), (9, .own 5 (List.map encNote y8.2.1)), (10, vI y8.2.2), (55, .d (.list 3 (List.map encImage p1))), (56, vI y8.2.2)] (by kernel_rfl) ?_
            obtain ⟨x9, hx, h⟩ := bind_inv h
            refine OWk.on 138 H (d := some 57) (s := lendP none (Go.Sh.D.cells (encImage x9))) [0, 1, 2, 7, 9, 10, 57] [(0, .d (.list 3 (List.map encImage p0))), (1, .d (.list 3 (List.map encImage p1))), (2, vI p2), (7, .own 3 (List.map encImage y8.1)), (9, .own 5 (List.map encNote y8.2.1)), (10, vI y8.2.2), (57, .d (.dptr [.str x9.Key, .bool x9.Has, .str x9.Text]))] (BAt.index (n := 3) hx (by kernel_rfl)) (by kernel_rfl) <| OWk.sg 138 H [] [0, 1, 2, 7, 9, 10, 11] 3 [(0, .d (.list 3 (List.map encImage p0))), (1, .d (.list 3 (List.map encImage p1))), (2, vI p2), (7, .own 3 (List.map encImage y8.1)), (9, .own 5 (List.map encNote y8.2.1)), (10, vI y8.2.2), (11, .box [vS x9.Key, vB x9.Has, vS x9.Text])] (by kernel_rfl) <| OWk.done (by kernel_rfl) <| thenS_n <| SW.seq <| SW.regionK <| OWk.sg 138 H [] [0, 1, 2, 7, 9, 10, 11, 12] 6 [(0, .d (.list 3 (List.map encImage p0))), (1, .d (.list 3 (List.map encImage p1))), (2, vI p2), (7, .own 3 (List.map encImage y8.1)), (9, .own 5 (List.map encNote y8.2.1)), (10, vI y8.2.2), (11, .box [vS x9.Key, vB x9.Has, vS x9.Text]), (12, .box [vI 2, vI p2, vS x9.Key, vB false, vS []])] (by kernel_rfl) <| OWk.done (by kernel_rfl) <| thenS_n <| SW.seq <| SW.seq <| SW.regionK <| OWk.sg 138 H [] [0, 1, 2, 7, 9, 10, 11, 12, 13] 1 [(0, .d (.list 3 (List.map encImage p0))), (1, .d (.list 3 (List.map encImage p1))), (2, vI p2), (7, .own 3 (List.map encImage y8.1)), (9, .own 5 (List.map encNote y8.2.1)), (10, vI y8.2.2), (11, .box [vS x9.Key, vB x9.Has, vS x9.Text]), (12, .box [vI 2, vI p2, vS x9.Key, vB false, vS []]), (13, vI 0)] (by kernel_rfl) <| OWk.done (by kernel_rfl) <| thenS_n <| SW.block ?_
            obtain ⟨v14, hit, h⟩ := bind_inv h
            refine SW.it 138 H [0, 1, 2, 7, 9, 10, 11, 12, 13] (fun y10 => [(0, .d (.list 3 (List.map encImage p0))), (1, .d (.list 3 (List.map encImage p1))), (2, vI p2), (7, .own 3 (List.map encImage y8.1)), (9, .own 5 (List.map encNote y8.2.1)), (10, vI y8.2.2), (11, .box [vS y10.1, vB y10.2.1, vS y10.2.2.1]), (12, .box [vI y10.2.2.2.1, vI y10.2.2.2.2.1, vS y10.2.2.2.2.2.1, vB y10.2.2.2.2.2.2.1, vS y10.2.2.2.2.2.2.2.1]), (13, vI y10.2.2.2.2.2.2.2.2)]) (fun v14 e s => (e = .exit 2 ∧ s = (sp 138 [(0, .d (.list 3 (List.map encImage p0))), (1, .d (.list 3 (List.map encImage p1))), (2, vI p2), (7, .own 3 (List.map encImage y8.1)), (9, .own 5 (List.map encNote y8.2.1)), (10, vI y8.2.2), (11, .box [vS v14.1, vB v14.2.1, vS v14.2.2.1]), (12, .box [vI v14.2.2.2.1, vI v14.2.2.2.2.1, vS v14.2.2.2.2.2.1, vB v14.2.2.2.2.2.2.1, vS v14.2.2.2.2.2.2.2])] H))) hit (by kernel_rfl) (fun y10 o h => ?_) ?_
            · unfold l_JournalUndone_l1 at h
              refine SW.seq <| SW.seq <| SW.regionK <| OWk.sg 138 H [] [0, 1, 2, 7, 9, 10, 11, 12, 13, 63, 64] 2 [(0, .d (.list 3 (List.map encImage p0))), (1, .d (.list 3 (List.map encImage p1))), (2, vI p2), (7, .own 3 (List.map encImage y8.1)), (9, .own 5 (List.map encNote y8.2.1)), (10, vI y8.2.2), (11, .box [vS y10.1, vB y10.2.1, vS y10.2.2.1]), (12, .box [vI y10.2.2.2.1, vI y10.2.2.2.2.1, vS y10.2.2.2.2.2.1, vB y10.2.2.2.2.2.2.1, vS y10.2.2.2.2.2.2.2.1]), (13, vI y10.2.2.2.2.2.2.2.2), (63, vI y10.2.2.2.2.2.2.2.2), (64, .lent (.slot 7) 3 (List.map encImage y8.1))] (by kernel_rfl) <| OWk.on 138 H (d := some 65) [0, 1, 2, 7, 9, 10, 11, 12, 13, 63, 65] [(0, .d (.list 3 (List.map encImage p0))), (1, .d (.list 3 (List.map encImage p1))), (2, vI p2), (7, .own 3 (List.map encImage y8.1)), (9, .own 5 (List.map encNote y8.2.1)), (10, vI y8.2.2), (11, .box [vS y10.1, vB y10.2.1, vS y10.2.2.1]), (12, .box [vI y10.2.2.2.1, vI y10.2.2.2.2.1, vS y10.2.2.2.2.2.1, vB y10.2.2.2.2.2.2.1, vS y10.2.2.2.2.2.2.2.1]), (13, vI y10.2.2.2.2.2.2.2.2), (63, vI y10.2.2.2.2.2.2.2.2), (65, vI (y8.1.length : Int))] (BAt.len (enc := encImage) (xs := y8.1) (by kernel_rfl)) (by kernel_rfl) <| OWk.sg 138 H [] [0, 1, 2, 7, 9, 10, 11, 12, 13, 66] 1 [(0, .d (.list 3 (List.map encImage p0))), (1, .d (.list 3 (List.map encImage p1))), (2, vI p2), (7, .own 3 (List.map encImage y8.1)), (9, .own 5 (List.map encNote y8.2.1)), (10, vI y8.2.2), (11, .box [vS y10.1, vB y10.2.1, vS y10.2.2.1]), (12, .box [vI y10.2.2.2.1, vI y10.2.2.2.2.1, vS y10.2.2.2.2.2.1, vB y10.2.2.2.2.2.2.1, vS y10.2.2.2.2.2.2.2.1]), (13, vI y10.2.2.2.2.2.2.2.2), (66, vB (decide (y10.2.2.2.2.2.2.2.2 < (y8.1.length : Int))))] (by kernel_rfl) <| OWk.done (by kernel_rfl) <| thenS_n ?_
              refine SW.condB (b := (decide (y10.2.2.2.2.2.2.2.2 < (y8.1.length : Int)))) (by kernel_rfl) (fun hc => ?_) (fun hc => ?_)
              · replace h := bif_t hc h
                refine SW.skip <| thenS_n <| SW.seq <| SW.block <| SW.seq <| SW.regionDk (by kernel_rfl) (by kernel_rfl) <| OBk.sg 138 H [] [0, 1, 2, 7, 9, 10, 11, 12, 13, 69, 70] 2 [(0, .d (.list 3 (List.map encImage p0))), (1, .d (.list 3 (List.map encImage p1))), (2, vI p2), (7, .own 3 (List.map encImage y8.1)), (9, .own 5 (List.map encNote y8.2.1)), (10, vI y8.2.2), (11, .box [vS y10.1, vB y10.2.1, vS y10.2.2.1]), (12, .box [vI y10.2.2.2.1, vI y10.2.2.2.2.1, vS y10.2.2.2.2.2.1, vB y10.2.2.2.2.2.2.1, vS y10.2.2.2.2.2.2.2.1]), (13, vI y10.2.2.2.2.2.2.2.2), (69, .lent (.slot 7) 3 (List.map encImage y8.1)), (70, vI y10.2.2.2.2.2.2.2.2)] (by kernel_rfl) (by kernel_rfl) ?_
                obtain ⟨x11, hx, h⟩ := bind_inv h
                refine OBk.on 138 H (d := some 71) (s := lendP (some (.slot 7)) (Go.Sh.D.cells (encImage x11))) [0, 1, 2, 7, 9, 10, 11, 12, 13, 71] [(0, .d (.list 3 (List.map encImage p0))), (1, .d (.list 3 (List.map encImage p1))), (2, vI p2), (7, .own 3 (List.map encImage y8.1)), (9, .own 5 (List.map encNote y8.2.1)), (10, vI y8.2.2), (11, .box [vS y10.1, vB y10.2.1, vS y10.2.2.1]), (12, .box [vI y10.2.2.2.1, vI y10.2.2.2.2.1, vS y10.2.2.2.2.2.1, vB y10.2.2.2.2.2.2.1, vS y10.2.2.2.2.2.2.2.1]), (13, vI y10.2.2.2.2.2.2.2.2), (71, .lptr (.slot 7) [.str x11.Key, .bool x11.Has, .str x11.Text])] (by kernel_rfl) (BAt.index (n := 3) hx (by kernel_rfl)) (by kernel_rfl) <| OBk.sg 138 H [] [0, 1, 2, 7, 9, 10, 11, 12, 13, 76] 5 [(0, .d (.list 3 (List.map encImage p0))), (1, .d (.list 3 (List.map encImage p1))), (2, vI p2), (7, .own 3 (List.map encImage y8.1)), (9, .own 5 (List.map encNote y8.2.1)), (10, vI y8.2.2), (11, .box [vS y10.1, vB y10.2.1, vS y10.2.2.1]), (12, .box [vI y10.2.2.2.1, vI y10.2.2.2.2.1, vS y10.2.2.2.2.2.1, vB y10.2.2.2.2.2.2.1, vS y10.2.2.2.2.2.2.2.1]), (13, vI y10.2.2.2.2.2.2.2.2), (76, vB (x11.Key == y10.1))] (by kernel_rfl) (by kernel_rfl) <| OBk.done (by kernel_rfl) <| thenS_n ?_
                refine SW.condB (b := (x11.Key == y10.1)) (by kernel_rfl) (fun hc => ?_) (fun hc => ?_)
                · replace h := bif_t hc h
                  obtain ⟨x12, hx12, h⟩ := bind_inv h
                  refine SW.kp 138 H [0, 1, 2, 7, 9, 10, 11, 12, 13] [(0, .d (.list 3 (List.map encImage p0))), (1, .d (.list 3 (List.map encImage p1))), (2, vI p2), (7, .own 3 (List.map encImage y8.1)), (9, .own 5 (List.map encNote y8.2.1)), (10, vI y8.2.2), (11, .box [vS y10.1, vB y10.2.1, vS y10.2.2.1]), (12, .box [vI y10.2.2.2.1, vI y10.2.2.2.2.1, vS y10.2.2.2.2.2.1, vB y10.2.2.2.2.2.2.1, vS y10.2.2.2.2.2.2.2.1]), (13, vI y10.2.2.2.2.2.2.2.2)] (by kernel_rfl) ?_
                  refine SW.regX 138 H [(0, .d (.list 3 (List.map encImage p0))), (1, .d (.list 3 (List.map encImage p1))), (2, vI p2), (7, .own 3 (List.map encImage y8.1)), (9, .own 5 (List.map encNote y8.2.1)), (10, vI y8.2.2), (11, .box [vS y10.1, vB y10.2.1, vS y10.2.2.1]), (12, .box [vI y10.2.2.2.1, vI y10.2.2.2.2.1, vS y10.2.2.2.2.2.1, vB true, vS x12.Text]), (13, vI y10.2.2.2.2.2.2.2.2)] (by kernel_rfl) (fun X hX => ?_) ?_
                  · have c511 : X 0 511 (sp 138 [(0, .d (.list 3 (List.map encImage p0))), (1, .d (.list 3 (List.map encImage p1))), (2, vI p2), (7, .own 3 (List.map encImage y8.1)), (9, .own 5 (List.map encNote y8.2.1)), (10, vI y8.2.2), (11, .box [vS y10.1, vB y10.2.1, vS y10.2.2.1]), (12, .box [vI y10.2.2.2.1, vI y10.2.2.2.2.1, vS y10.2.2.2.2.2.1, vB true, vS x12.Text]), (13, vI y10.2.2.2.2.2.2.2.2)] H) := by subst hX; exact OX.fin (by kernel_rfl)
                    have c255 : X 1 255 (sp 138 [(0, .d (.list 3 (List.map encImage p0))), (1, .d (.list 3 (List.map encImage p1))), (2, vI p2), (7, .own 3 (List.map encImage y8.1)), (9, .own 5 (List.map encNote y8.2.1)), (10, vI y8.2.2), (11, .box [vS y10.1, vB y10.2.1, vS y10.2.2.1]), (12, .box [vI y10.2.2.2.1, vI y10.2.2.2.2.1, vS y10.2.2.2.2.2.1, vB true, vS y10.2.2.2.2.2.2.2.1]), (13, vI y10.2.2.2.2.2.2.2.2), (81, vS x12.Text), (83, .loc 12 4)] H) := by
                      subst hX
                      refine OX.step (i0 := 8) (is := []) (by kernel_rfl) (by kernel_rfl) ⟨?_, trivial⟩
                      · refine OWk.sg 138 H [] [0, 1, 2, 7, 9, 10, 11, 12, 13] 1 [(0, .d (.list 3 (List.map encImage p0))), (1, .d (.list 3 (List.map encImage p1))), (2, vI p2), (7, .own 3 (List.map encImage y8.1)), (9, .own 5 (List.map encNote y8.2.1)), (10, vI y8.2.2), (11, .box [vS y10.1, vB y10.2.1, vS y10.2.2.1]), (12, .box [vI y10.2.2.2.1, vI y10.2.2.2.2.1, vS y10.2.2.2.2.2.1, vB true, vS x12.Text]), (13, vI y10.2.2.2.2.2.2.2.2)] (by kernel_rfl) <| OWk.done (by kernel_rfl) ?_
                        exact c511
                    have c127 : X 2 127 (sp 138 [(0, .d (.list 3 (List.map encImage p0))), (1, .d (.list 3 (List.map encImage p1))), (2, vI p2), (7, .own 3 (List.map encImage y8.1)), (9, .own 5 (List.map encNote y8.2.1)), (10, vI y8.2.2), (11, .box [vS y10.1, vB y10.2.1, vS y10.2.2.1]), (12, .box [vI y10.2.2.2.1, vI y10.2.2.2.2.1, vS y10.2.2.2.2.2.1, vB true, vS y10.2.2.2.2.2.2.2.1]), (13, vI y10.2.2.2.2.2.2.2.2), (81, vS x12.Text)] H) := by
                      subst hX
                      refine OX.step (i0 := 7) (is := []) (by kernel_rfl) (by kernel_rfl) ⟨?_, trivial⟩
                      · refine OWk.sg 138 H [] [0, 1, 2, 7, 9, 10, 11, 12, 13, 81, 83] 1 [(0, .d (.list 3 (List.map encImage p0))), (1, .d (.list 3 (List.map encImage p1))), (2, vI p2), (7, .own 3 (List.map encImage y8.1)), (9, .own 5 (List.map encNote y8.2.1)), (10, vI y8.2.2), (11, .box [vS y10.1, vB y10.2.1, vS y10.2.2.1]), (12, .box [vI y10.2.2.2.1, vI y10.2.2.2.2.1, vS y10.2.2.2.2.2.1, vB true, vS y10.2.2.2.2.2.2.2.1]), (13, vI y10.2.2.2.2.2.2.2.2), (81, vS x12.Text), (83, .loc 12 4)] (by kernel_rfl) <| OWk.done (by kernel_rfl) ?_
                        exact c255
                    have c63 : X 3 63 (sp 138 [(0, .d (.list 3 (List.map encImage p0))), (1, .d (.list 3 (List.map encImage p1))), (2, vI p2), (7, .own 3 (List.map encImage y8.1)), (9, .own 5 (List.map encNote y8.2.1)), (10, vI y8.2.2), (11, .box [vS y10.1, vB y10.2.1, vS y10.2.2.1]), (12, .box [vI y10.2.2.2.1, vI y10.2.2.2.2.1, vS y10.2.2.2.2.2.1, vB y10.2.2.2.2.2.2.1, vS y10.2.2.2.2.2.2.2.1]), (13, vI y10.2.2.2.2.2.2.2.2), (81, vS x12.Text), (82, .loc 12 3)] H) := by
                      subst hX
                      refine OX.step (i0 := 6) (is := []) (by kernel_rfl) (by kernel_rfl) ⟨?_, trivial⟩
                      · refine OWk.sg 138 H [] [0, 1, 2, 7, 9, 10, 11, 12, 13, 81] 1 [(0, .d (.list 3 (List.map encImage p0))), (1, .d (.list 3 (List.map encImage p1))), (2, vI p2), (7, .own 3 (List.map encImage y8.1)), (9, .own 5 (List.map encNote y8.2.1)), (10, vI y8.2.2), (11, .box [vS y10.1, vB y10.2.1, vS y10.2.2.1]), (12, .box [vI y10.2.2.2.1, vI y10.2.2.2.2.1, vS y10.2.2.2.2.2.1, vB true, vS y10.2.2.2.2.2.2.2.1]), (13, vI y10.2.2.2.2.2.2.2.2), (81, vS x12.Text)] (by kernel_rfl) <| OWk.done (by kernel_rfl) ?_
                        exact c127
                    have c31 : X 4 31 (sp 138 [(0, .d (.list 3 (List.map encImage p0))), (1, .d (.list 3 (List.map encImage p1))), (2, vI p2), (7, .own 3 (List.map encImage y8.1)), (9, .own 5 (List.map encNote y8.2.1)), (10, vI y8.2.2), (11, .box [vS y10.1, vB y10.2.1, vS y10.2.2.1]), (12, .box [vI y10.2.2.2.1, vI y10.2.2.2.2.1, vS y10.2.2.2.2.2.1, vB y10.2.2.2.2.2.2.1, vS y10.2.2.2.2.2.2.2.1]), (13, vI y10.2.2.2.2.2.2.2.2), (81, vS x12.Text)] H) := by
                      subst hX
                      refine OX.step (i0 := 5) (is := []) (by kernel_rfl) (by kernel_rfl) ⟨?_, trivial⟩
                      · refine OWk.sg 138 H [] [0, 1, 2, 7, 9, 10, 11, 12, 13, 81, 82] 1 [(0, .d (.list 3 (List.map encImage p0))), (1, .d (.list 3 (List.map encImage p1))), (2, vI p2), (7, .own 3 (List.map encImage y8.1)), (9, .own 5 (List.map encNote y8.2.1)), (10, vI y8.2.2), (11, .box [vS y10.1, vB y10.2.1, vS y10.2.2.1]), (12, .box [vI y10.2.2.2.1, vI y10.2.2.2.2.1, vS y10.2.2.2.2.2.1, vB y10.2.2.2.2.2.2.1, vS y10.2.2.2.2.2.2.2.1]), (13, vI y10.2.2.2.2.2.2.2.2), (81, vS x12.Text), (82, .loc 12 3)] (by kernel_rfl) <| OWk.done (by kernel_rfl) ?_
                        exact c63
                    have c111 : X 3 111 (sp 138 [(0, .d (.list 3 (List.map encImage p0))), (1, .d (.list 3 (List.map encImage p1))), (2, vI p2), (7, .own 3 (List.map encImage y8.1)), (9, .own 5 (List.map encNote y8.2.1)), (10, vI y8.2.2), (11, .box [vS y10.1, vB y10.2.1, vS y10.2.2.1]), (12, .box [vI y10.2.2.2.1, vI y10.2.2.2.2.1, vS y10.2.2.2.2.2.1, vB true, vS y10.2.2.2.2.2.2.2.1]), (13, vI y10.2.2.2.2.2.2.2.2), (80, .lptr (.slot 7) [.str x12.Text])] H) := by
                      subst hX
                      refine OX.step (i0 := 4) (is := []) (by kernel_rfl) (by kernel_rfl) ⟨?_, trivial⟩
                      · refine OWk.sg 138 H [] [0, 1, 2, 7, 9, 10, 11, 12, 13, 81] 1 [(0, .d (.list 3 (List.map encImage p0))), (1, .d (.list 3 (List.map encImage p1))), (2, vI p2), (7, .own 3 (List.map encImage y8.1)), (9, .own 5 (List.map encNote y8.2.1)), (10, vI y8.2.2), (11, .box [vS y10.1, vB y10.2.1, vS y10.2.2.1]), (12, .box [vI y10.2.2.2.1, vI y10.2.2.2.2.1, vS y10.2.2.2.2.2.1, vB true, vS y10.2.2.2.2.2.2.2.1]), (13, vI y10.2.2.2.2.2.2.2.2), (81, vS x12.Text)] (by kernel_rfl) <| OWk.done (by kernel_rfl) ?_
                        exact c127
                    have c47 : X 4 47 (sp 138 [(0, .d (.list 3 (List.map encImage p0))), (1, .d (.list 3 (List.map encImage p1))), (2, vI p2), (7, .own 3 (List.map encImage y8.1)), (9, .own 5 (List.map encNote y8.2.1)), (10, vI y8.2.2), (11, .box [vS y10.1, vB y10.2.1, vS y10.2.2.1]), (12, .box [vI y10.2.2.2.1, vI y10.2.2.2.2.1, vS y10.2.2.2.2.2.1, vB y10.2.2.2.2.2.2.1, vS y10.2.2.2.2.2.2.2.1]), (13, vI y10.2.2.2.2.2.2.2.2), (80, .lptr (.slot 7) [.str x12.Text]), (82, .loc 12 3)] H) := by
                      subst hX
                      refine OX.step (i0 := 4) (is := [6]) (by kernel_rfl) (by kernel_rfl) ⟨?_, ?_, trivial⟩
                      · refine OWk.sg 138 H [] [0, 1, 2, 7, 9, 10, 11, 12, 13, 81, 82] 1 [(0, .d (.list 3 (List.map encImage p0))), (1, .d (.list 3 (List.map encImage p1))), (2, vI p2), (7, .own 3 (List.map encImage y8.1)), (9, .own 5 (List.map encNote y8.2.1)), (10, vI y8.2.2), (11, .box [vS y10.1, vB y10.2.1, vS y10.2.2.1]), (12, .box [vI y10.2.2.2.1, vI y10.2.2.2.2.1, vS y10.2.2.2.2.2.1, vB y10.2.2.2.2.2.2.1, vS y10.2.2.2.2.2.2.2.1]), (13, vI y10.2.2.2.2.2.2.2.2), (81, vS x12.Text), (82, .loc 12 3)] (by kernel_rfl) <| OWk.done (by kernel_rfl) ?_
                        exact c63
                      · refine OWk.sg 138 H [] [0, 1, 2, 7, 9, 10, 11, 12, 13, 80] 1 [(0, .d (.list 3 (List.map encImage p0))), (1, .d (.list 3 (List.map encImage p1))), (2, vI p2), (7, .own 3 (List.map encImage y8.1)), (9, .own 5 (List.map encNote y8.2.1)), (10, vI y8.2.2), (11, .box [vS y10.1, vB y10.2.1, vS y10.2.2.1]), (12, .box [vI y10.2.2.2.1, vI y10.2.2.2.2.1, vS y10.2.2.2.2.2.1, vB true, vS y10.2.2.2.2.2.2.2.1]), (13, vI y10.2.2.2.2.2.2.2.2), (80, .lptr (.slot 7) [.str x12.Text])] (by kernel_rfl) <| OWk.done (by kernel_rfl) ?_
                        exact c111
                    have c15 : X 5 15 (sp 138 [(0, .d (.list 3 (List.map encImage p0))), (1, .d (.list 3 (List.map encImage p1))), (2, vI p2), (7, .own 3 (List.map encImage y8.1)), (9, .own 5 (List.map encNote y8.2.1)), (10, vI y8.2.2), (11, .box [vS y10.1, vB y10.2.1, vS y10.2.2.1]), (12, .box [vI y10.2.2.2.1, vI y10.2.2.2.2.1, vS y10.2.2.2.2.2.1, vB y10.2.2.2.2.2.2.1, vS y10.2.2.2.2.2.2.2.1]), (13, vI y10.2.2.2.2.2.2.2.2), (80, .lptr (.slot 7) [.str x12.Text])] H) := by
                      subst hX
                      refine OX.step (i0 := 4) (is := [5]) (by kernel_rfl) (by kernel_rfl) ⟨?_, ?_, trivial⟩
                      · refine OWk.sg 138 H [] [0, 1, 2, 7, 9, 10, 11, 12, 13, 81] 1 [(0, .d (.list 3 (List.map encImage p0))), (1, .d (.list 3 (List.map encImage p1))), (2, vI p2), (7, .own 3 (List.map encImage y8.1)), (9, .own 5 (List.map encNote y8.2.1)), (10, vI y8.2.2), (11, .box [vS y10.1, vB y10.2.1, vS y10.2.2.1]), (12, .box [vI y10.2.2.2.1, vI y10.2.2.2.2.1, vS y10.2.2.2.2.2.1, vB y10.2.2.2.2.2.2.1, vS y10.2.2.2.2.2.2.2.1]), (13, vI y10.2.2.2.2.2.2.2.2), (81, vS x12.Text)] (by kernel_rfl) <| OWk.done (by kernel_rfl) ?_
                        exact c31
                      · refine OWk.sg 138 H [] [0, 1, 2, 7, 9, 10, 11, 12, 13, 80, 82] 1 [(0, .d (.list 3 (List.map encImage p0))), (1, .d (.list 3 (List.map encImage p1))), (2, vI p2), (7, .own 3 (List.map encImage y8.1)), (9, .own 5 (List.map encNote y8.2.1)), (10, vI y8.2.2), (11, .box [vS y10.1, vB y10.2.1, vS y10.2.2.1]), (12, .box [vI y10.2.2.2.1, vI y10.2.2.2.2.1, vS y10.2.2.2.2.2.1, vB y10.2.2.2.2.2.2.1, vS y10.2.2.2.2.2.2.2.1]), (13, vI y10.2.2.2.2.2.2.2.2), (80, .lptr (.slot 7) [.str x12.Text]), (82, .loc 12 3)] (by kernel_rfl) <| OWk.done (by kernel_rfl) ?_
                        exact c47
                    have c103 : X 4 103 (sp 138 [(0, .d (.list 3 (List.map encImage p0))), (1, .d (.list 3 (List.map encImage p1))), (2, vI p2), (7, .own 3 (List.map encImage y8.1)), (9, .own 5 (List.map encNote y8.2.1)), (10, vI y8.2.2), (11, .box [vS y10.1, vB y10.2.1, vS y10.2.2.1]), (12, .box [vI y10.2.2.2.1, vI y10.2.2.2.2.1, vS y10.2.2.2.2.2.1, vB true, vS y10.2.2.2.2.2.2.2.1]), (13, vI y10.2.2.2.2.2.2.2.2), (79, .lptr (.slot 7) [.str x12.Key, .bool x12.Has, .str x12.Text])] H) := by
                      subst hX
                      refine OX.step (i0 := 3) (is := []) (by kernel_rfl) (by kernel_rfl) ⟨?_, trivial⟩
                      · refine OWk.sg 138 H [] [0, 1, 2, 7, 9, 10, 11, 12, 13, 80] 1 [(0, .d (.list 3 (List.map encImage p0))), (1, .d (.list 3 (List.map encImage p1))), (2, vI p2), (7, .own 3 (List.map encImage y8.1)), (9, .own 5 (List.map encNote y8.2.1)), (10, vI y8.2.2), (11, .box [vS y10.1, vB y10.2.1, vS y10.2.2.1]), (12, .box [vI y10.2.2.2.1, vI y10.2.2.2.2.1, vS y10.2.2.2.2.2.1, vB true, vS y10.2.2.2.2.2.2.2.1]), (13, vI y10.2.2.2.2.2.2.2.2), (80, .lptr (.slot 7) [.str x12.Text])] (by kernel_rfl) <| OWk.done (by kernel_rfl) ?_
                        exact c111
                    have c39 : X 5 39 (sp 138 [(0, .d (.list 3 (List.map encImage p0))), (1, .d (.list 3 (List.map encImage p1))), (2, vI p2), (7, .own 3 (List.map encImage y8.1)), (9, .own 5 (List.map encNote y8.2.1)), (10, vI y8.2.2), (11, .box [vS y10.1, vB y10.2.1, vS y10.2.2.1]), (12, .box [vI y10.2.2.2.1, vI y10.2.2.2.2.1, vS y10.2.2.2.2.2.1, vB y10.2.2.2.2.2.2.1, vS y10.2.2.2.2.2.2.2.1]), (13, vI y10.2.2.2.2.2.2.2.2), (79, .lptr (.slot 7) [.str x12.Key, .bool x12.Has, .str x12.Text]), (82, .loc 12 3)] H) := by
                      subst hX
                      refine OX.step (i0 := 3) (is := [6]) (by kernel_rfl) (by kernel_rfl) ⟨?_, ?_, trivial⟩
                      · refine OWk.sg 138 H [] [0, 1, 2, 7, 9, 10, 11, 12, 13, 80, 82] 1 [(0, .d (.list 3 (List.map encImage p0))), (1, .d (.list 3 (List.map encImage p1))), (2, vI p2), (7, .own 3 (List.map encImage y8.1)), (9, .own 5 (List.map encNote y8.2.1)), (10, vI y8.2.2), (11, .box [vS y10.1, vB y10.2.1, vS y10.2.2.1]), (12, .box [vI y10.2.2.2.1, vI y10.2.2.2.2.1, vS y10.2.2.2.2.2.1, vB y10.2.2.2.2.2.2.1, vS y10.2.2.2.2.2.2.2.1]), (13, vI y10.2.2.2.2.2.2.2.2), (80, .lptr (.slot 7) [.str x12.Text]), (82, .loc 12 3)] (by kernel_rfl) <| OWk.done (by kernel_rfl) ?_
                        exact c47
                      · refine OWk.sg 138 H [] [0, 1, 2, 7, 9, 10, 11, 12, 13, 79] 1 [(0, .d (.list 3 (List.map encImage p0))), (1, .d (.list 3 (List.map encImage p1))), (2, vI p2), (7, .own 3 (List.map encImage y8.1)), (9, .own 5 (List.map encNote y8.2.1)), (10, vI y8.2.2), (11, .box [vS y10.1, vB y10.2.1, vS y10.2.2.1]), (12, .box [vI y10.2.2.2.1, vI y10.2.2.2.2.1, vS y10.2.2.2.2.2.1, vB true, vS y10.2.2.2.2.2.2.2.1]), (13, vI y10.2.2.2.2.2.2.2.2), (79, .lptr (.slot 7) [.str x12.Key, .bool x12.Has, .str x12.Text])] (by kernel_rfl) <| OWk.done (by kernel_rfl) ?_
                        exact c103
                    have c7 : X 6 7 (sp 138 [(0, .d (.list 3 (List.map encImage p0))), (1, .d (.list 3 (List.map encImage p1))), (2, vI p2), (7, .own 3 (List.map encImage y8.1)), (9, .own 5 (List.map encNote y8.2.1)), (10, vI y8.2.2), (11, .box [vS y10.1, vB y10.2.1, vS y10.2.2.1]), (12, .box [vI y10.2.2.2.1, vI y10.2.2.2.2.1, vS y10.2.2.2.2.2.1, vB y10.2.2.2.2.2.2.1, vS y10.2.2.2.2.2.2.2.1]), (13, vI y10.2.2.2.2.2.2.2.2), (79, .lptr (.slot 7) [.str x12.Key, .bool x12.Has, .str x12.Text])] H) := by
                      subst hX
                      refine OX.step (i0 := 3) (is := [5]) (by kernel_rfl) (by kernel_rfl) ⟨?_, ?_, trivial⟩
                      · refine OWk.sg 138 H [] [0, 1, 2, 7, 9, 10, 11, 12, 13, 80] 1 [(0, .d (.list 3 (List.map encImage p0))), (1, .d (.list 3 (List.map encImage p1))), (2, vI p2), (7, .own 3 (List.map encImage y8.1)), (9, .own 5 (List.map encNote y8.2.1)), (10, vI y8.2.2), (11, .box [vS y10.1, vB y10.2.1, vS y10.2.2.1]), (12, .box [vI y10.2.2.2.1, vI y10.2.2.2.2.1, vS y10.2.2.2.2.2.1, vB y10.2.2.2.2.2.2.1, vS y10.2.2.2.2.2.2.2.1]), (13, vI y10.2.2.2.2.2.2.2.2), (80, .lptr (.slot 7) [.str x12.Text])] (by kernel_rfl) <| OWk.done (by kernel_rfl) ?_
                        exact c15
                      · refine OWk.sg 138 H [] [0, 1, 2, 7, 9, 10, 11, 12, 13, 79, 82] 1 [(0, .d (.list 3 (List.map encImage p0))), (1, .d (.list 3 (List.map encImage p1))), (2, vI p2), (7, .own 3 (List.map encImage y8.1)), (9, .own 5 (List.map encNote y8.2.1)), (10, vI y8.2.2), (11, .box [vS y10.1, vB y10.2.1, vS y10.2.2.1]), (12, .box [vI y10.2.2.2.1, vI y10.2.2.2.2.1, vS y10.2.2.2.2.2.1, vB y10.2.2.2.2.2.2.1, vS y10.2.2.2.2.2.2.2.1]), (13, vI y10.2.2.2.2.2.2.2.2), (79, .lptr (.slot 7) [.str x12.Key, .bool x12.Has, .str x12.Text]), (82, .loc 12 3)] (by kernel_rfl) <| OWk.done (by kernel_rfl) ?_
                        exact c39
                    have c99 : X 5 99 (sp 138 [(0, .d (.list 3 (List.map encImage p0))), (1, .d (.list 3 (List.map encImage p1))), (2, vI p2), (7, .own 3 (List.map encImage y8.1)), (9, .own 5 (List.map encNote y8.2.1)), (10, vI y8.2.2), (11, .box [vS y10.1, vB y10.2.1, vS y10.2.2.1]), (12, .box [vI y10.2.2.2.1, vI y10.2.2.2.2.1, vS y10.2.2.2.2.2.1, vB true, vS y10.2.2.2.2.2.2.2.1]), (13, vI y10.2.2.2.2.2.2.2.2), (77, .lent (.slot 7) 3 (List.map encImage y8.1)), (78, vI y10.2.2.2.2.2.2.2.2)] H) := by
                      subst hX
                      refine OX.step (i0 := 2) (is := []) (by kernel_rfl) (by kernel_rfl) ⟨?_, trivial⟩
                      · refine OWk.on 138 H (d := some 79) (s := lendP (some (.slot 7)) (Go.Sh.D.cells (encImage x12))) [0, 1, 2, 7, 9, 10, 11, 12, 13, 79] [(0, .d (.list 3 (List.map encImage p0))), (1, .d (.list 3 (List.map encImage p1))), (2, vI p2), (7, .own 3 (List.map encImage y8.1)), (9, .own 5 (List.map encNote y8.2.1)), (10, vI y8.2.2), (11, .box [vS y10.1, vB y10.2.1, vS y10.2.2.1]), (12, .box [vI y10.2.2.2.1, vI y10.2.2.2.2.1, vS y10.2.2.2.2.2.1, vB true, vS y10.2.2.2.2.2.2.2.1]), (13, vI y10.2.2.2.2.2.2.2.2), (79, .lptr (.slot 7) [.str x12.Key, .bool x12.Has, .str x12.Text])] (BAt.index (n := 3) hx12 (by kernel_rfl)) (by kernel_rfl) <| OWk.done (by kernel_rfl) ?_
                        exact c103
                    have c35 : X 6 35 (sp 138 [(0, .d (.list 3 (List.map encImage p0))), (1, .d (.list 3 (List.map encImage p1))), (2, vI p2), (7, .own 3 (List.map encImage y8.1)), (9, .own 5 (List.map encNote y8.2.1)), (10, vI y8.2.2), (11, .box [vS y10.1, vB y10.2.1, vS y10.2.2.1]), (12, .box [vI y10.2.2.2.1, vI y10.2.2.2.2.1, vS y10.2.2.2.2.2.1, vB y10.2.2.2.2.2.2.1, vS y10.2.2.2.2.2.2.2.1]), (13, vI y10.2.2.2.2.2.2.2.2), (77, .lent (.slot 7) 3 (List.map encImage y8.1)), (78, vI y10.2.2.2.2.2.2.2.2), (82, .loc 12 3)] H) := by
                      subst hX
                      refine OX.step (i0 := 2) (is := [6]) (by kernel_rfl) (by kernel_rfl) ⟨?_, ?_, trivial⟩
                      · refine OWk.on 138 H (d := some 79) (s := lendP (some (.slot 7)) (Go.Sh.D.cells (encImage x12))) [0, 1, 2, 7, 9, 10, 11, 12, 13, 79, 82] [(0, .d (.list 3 (List.map encImage p0))), (1, .d (.list 3 (List.map encImage p1))), (2, vI p2), (7, .own 3 (List.map encImage y8.1)), (9, .own 5 (List.map encNote y8.2.1)), (10, vI y8.2.2), (11, .box [vS y10.1, vB y10.2.1, vS y10.2.2.1]), (12, .box [vI y10.2.2.2.1, vI y10.2.2.2.2.1, vS y10.2.2.2.2.2.1, vB y10.2.2.2.2.2.2.1, vS y10.2.2.2.2.2.2.2.1]), (13, vI y10.2.2.2.2.2.2.2.2), (79, .lptr (.slot 7) [.str x12.Key, .bool x12.Has, .str x12.Text]), (82, .loc 12 3)] (BAt.index (n := 3) hx12 (by kernel_rfl)) (by kernel_rfl) <| OWk.done (by kernel_rfl) ?_
                        exact c39
                      · refine OWk.sg 138 H [] [0, 1, 2, 7, 9, 10, 11, 12, 13, 77, 78] 1 [(0, .d (.list 3 (List.map encImage p0))), (1, .d (.list 3 (List.map encImage p1))), (2, vI p2), (7, .own 3 (List.map encImage y8.1)), (9, .own 5 (List.map encNote y8.2.1)), (10, vI y8.2.2), (11, .box [vS y10.1, vB y10.2.1, vS y10.2.2.1]), (12, .box [vI y10.2.2.2.1, vI y10.2.2.2.2.1, vS y10.2.2.2.2.2.1, vB true, vS y10.2.2.2.2.2.2.2.1]), (13, vI y10.2.2.2.2.2.2.2.2), (77, .lent (.slot 7) 3 (List.map encImage y8.1)), (78, vI y10.2.2.2.2.2.2.2.2)] (by kernel_rfl) <| OWk.done (by kernel_rfl) ?_
                        exact c99
                    have c3 : X 7 3 (sp 138 [(0, .d (.list 3 (List.map encImage p0))), (1, .d (.list 3 (List.map encImage p1))), (2, vI p2), (7, .own 3 (List.map encImage y8.1)), (9, .own 5 (List.map encNote y8.2.1)), (10, vI y8.2.2), (11, .box [vS y10.1, vB y10.2.1, vS y10.2.2.1]), (12, .box [vI y10.2.2.2.1, vI y10.2.2.2.2.1, vS y10.2.2.2.2.2.1, vB y10.2.2.2.2.2.2.1, vS y10.2.2.2.2.2.2.2.1]), (13, vI y10.2.2.2.2.2.2.2.2), (77, .lent (.slot 7) 3 (List.map encImage y8.1)), (78, vI y10.2.2.2.2.2.2.2.2)] H) := by
                      subst hX
                      refine OX.step (i0 := 2) (is := [5]) (by kernel_rfl) (by kernel_rfl) ⟨?_, ?_, trivial⟩
                      · refine OWk.on 138 H (d := some 79) (s := lendP (some (.slot 7)) (Go.Sh.D.cells (encImage x12))) [0, 1, 2, 7, 9, 10, 11, 12, 13, 79] [(0, .d (.list 3 (List.map encImage p0))), (1, .d (.list 3 (List.map encImage p1))), (2, vI p2), (7, .own 3 (List.map encImage y8.1)), (9, .own 5 (List.map encNote y8.2.1)), (10, vI y8.2.2), (11, .box [vS y10.1, vB y10.2.1, vS y10.2.2.1]), (12, .box [vI y10.2.2.2.1, vI y10.2.2.2.2.1, vS y10.2.2.2.2.2.1, vB y10.2.2.2.2.2.2.1, vS y10.2.2.2.2.2.2.2.1]), (13, vI y10.2.2.2.2.2.2.2.2), (79, .lptr (.slot 7) [.str x12.Key, .bool x12.Has, .str x12.Text])] (BAt.index (n := 3) hx12 (by kernel_rfl)) (by kernel_rfl) <| OWk.done (by kernel_rfl) ?_
                        exact c7
                      · refine OWk.sg 138 H [] [0, 1, 2, 7, 9, 10, 11, 12, 13, 77, 78, 82] 1 [(0, .d (.list 3 (List.map encImage p0))), (1, .d (.list 3 (List.map encImage p1))), (2, vI p2), (7, .own 3 (List.map encImage y8.1)), (9, .own 5 (List.map encNote y8.2.1)), (10, vI y8.2.2), (11, .box [vS y10.1, vB y10.2.1, vS y10.2.2.1]), (12, .box [vI y10.2.2.2.1, vI y10.2.2.2.2.1, vS y10.2.2.2.2.2.1, vB y10.2.2.2.2.2.2.1, vS y10.2.2.2.2.2.2.2.1]), (13, vI y10.2.2.2.2.2.2.2.2), (77, .lent (.slot 7) 3 (List.map encImage y8.1)), (78, vI y10.2.2.2.2.2.2.2.2), (82, .loc 12 3)] (by kernel_rfl) <| OWk.done (by kernel_rfl) ?_
                        exact c35
                    have c97 : X 6 97 (sp 138 [(0, .d (.list 3 (List.map encImage p0))), (1, .d (.list 3 (List.map encImage p1))), (2, vI p2), (7, .own 3 (List.map encImage y8.1)), (9, .own 5 (List.map encNote y8.2.1)), (10, vI y8.2.2), (11, .box [vS y10.1, vB y10.2.1, vS y10.2.2.1]), (12, .box [vI y10.2.2.2.1, vI y10.2.2.2.2.1, vS y10.2.2.2.2.2.1, vB true, vS y10.2.2.2.2.2.2.2.1]), (13, vI y10.2.2.2.2.2.2.2.2), (77, .lent (.slot 7) 3 (List.map encImage y8.1))] H) := by
                      subst hX
                      refine OX.step (i0 := 1) (is := []) (by kernel_rfl) (by kernel_rfl) ⟨?_, trivial⟩
                      · refine OWk.sg 138 H [] [0, 1, 2, 7, 9, 10, 11, 12, 13, 77, 78] 1 [(0, .d (.list 3 (List.map encImage p0))), (1, .d (.list 3 (List.map encImage p1))), (2, vI p2), (7, .own 3 (List.map encImage y8.1)), (9, .own 5 (List.map encNote y8.2.1)), (10, vI y8.2.2), (11, .box [vS y10.1, vB y10.2.1, vS y10.2.2.1]), (12, .box [vI y10.2.2.2.1, vI y10.2.2.2.2.1, vS y10.2.2.2.2.2.1, vB true, vS y10.2.2.2.2.2.2.2.1]), (13, vI y10.2.2.2.2.2.2.2.2), (77, .lent (.slot 7) 3 (List.map encImage y8.1)), (78, vI y10.2.2.2.2.2.2.2.2)] (by kernel_rfl) <| OWk.done (by kernel_rfl) ?_
                        exact c99
                    have c33 : X 7 33 (sp 138 [(0, .d (.list 3 (List.map encImage p0))), (1, .d (.list 3 (List.map encImage p1))), (2, vI p2), (7, .own 3 (List.map encImage y8.1)), (9, .own 5 (List.map encNote y8.2.1)), (10, vI y8.2.2), (11, .box [vS y10.1, vB y10.2.1, vS y10.2.2.1]), (12, .box [vI y10.2.2.2.1, vI y10.2.2.2.2.1, vS y10.2.2.2.2.2.1, vB y10.2.2.2.2.2.2.1, vS y10.2.2.2.2.2.2.2.1]), (13, vI y10.2.2.2.2.2.2.2.2), (77, .lent (.slot 7) 3 (List.map encImage y8.1)), (82, .loc 12 3)] H) := by
                      subst hX
                      refine OX.step (i0 := 1) (is := [6]) (by kernel_rfl) (by kernel_rfl) ⟨?_, ?_, trivial⟩
                      · refine OWk.sg 138 H [] [0, 1, 2, 7, 9, 10, 11, 12, 13, 77, 78, 82] 1 [(0, .d (.list 3 (List.map encImage p0))), (1, .d (.list 3 (List.map encImage p1))), (2, vI p2), (7, .own 3 (List.map encImage y8.1)), (9, .own 5 (List.map encNote y8.2.1)), (10, vI y8.2.2), (11, .box [vS y10.1, vB y10.2.1, vS y10.2.2.1]), (12, .box [vI y10.2.2.2.1, vI y10.2.2.2.2.1, vS y10.2.2.2.2.2.1, vB y10.2.2.2.2.2.2.1, vS y10.2.2.2.2.2.2.2.1]), (13, vI y10.2.2.2.2.2.2.2.2), (77, .lent (.slot 7) 3 (List.map encImage y8.1)), (78, vI y10.2.2.2.2.2.2.2.2), (82, .loc 12 3)] (by kernel_rfl) <| OWk.done (by kernel_rfl) ?_
                        exact c35
                      · refine OWk.sg 138 H [] [0, 1, 2, 7, 9, 10, 11, 12, 13, 77] 1 [(0, .d (.list 3 (List.map encImage p0))), (1, .d (.list 3 (List.map encImage p1))), (2, vI p2), (7, .own 3 (List.map encImage y8.1)), (9, .own 5 (List.map encNote y8.2.1)), (10, vI y8.2.2), (11, .box [vS y10.1, vB y10.2.1, vS y10.2.2.1]), (12, .box [vI y10.2.2.2.1, vI y10.2.2.2.2.1, vS y10.2.2.2.2.2.1, vB true, vS y10.2.2.2.2.2.2.2.1]), (13, vI y10.2.2.2.2.2.2.2.2), (77, .lent (.slot 7) 3 (List.map encImage y8.1))] (by kernel_rfl) <| OWk.done (by kernel_rfl) ?_
                        exact c97
                    have c1 : X 8 1 (sp 138 [(0, .d (.list 3 (List.map encImage p0))), (1, .d (.list 3 (List.map encImage p1))), (2, vI p2), (7, .own 3 (List.map encImage y8.1)), (9, .own 5 (List.map encNote y8.2.1)), (10, vI y8.2.2), (11, .box [vS y10.1, vB y10.2.1, vS y10.2.2.1]), (12, .box [vI y10.2.2.2.1, vI y10.2.2.2.2.1, vS y10.2.2.2.2.2.1, vB y10.2.2.2.2.2.2.1, vS y10.2.2.2.2.2.2.2.1]), (13, vI y10.2.2.2.2.2.2.2.2), (77, .lent (.slot 7) 3 (List.map encImage y8.1))] H) := by
                      subst hX
                      refine OX.step (i0 := 1) (is := [5]) (by kernel_rfl) (by kernel_rfl) ⟨?_, ?_, trivial⟩
                      · refine OWk.sg 138 H [] [0, 1, 2, 7, 9, 10, 11, 12, 13, 77, 78] 1 [(0, .d (.list 3 (List.map encImage p0))), (1, .d (.list 3 (List.map encImage p1))), (2, vI p2), (7, .own 3 (List.map encImage y8.1)), (9, .own 5 (List.map encNote y8.2.1)), (10, vI y8.2.2), (11, .box [vS y10.1, vB y10.2.1, vS y10.2.2.1]), (12, .box [vI y10.2.2.2.1, vI y10.2.2.2.2.1, vS y10.2.2.2.2.2.1, vB y10.2.2.2.2.2.2.1, vS y10.2.2.2.2.2.2.2.1]), (13, vI y10.2.2.2.2.2.2.2.2), (77, .lent (.slot 7) 3 (List.map encImage y8.1)), (78, vI y10.2.2.2.2.2.2.2.2)] (by kernel_rfl) <| OWk.done (by kernel_rfl) ?_
                        exact c3
                      · refine OWk.sg 138 H [] [0, 1, 2, 7, 9, 10, 11, 12, 13, 77, 82] 1 [(0, .d (.list 3 (List.map encImage p0))), (1, .d (.list 3 (List.map encImage p1))), (2, vI p2), (7, .own 3 (List.map encImage y8.1)), (9, .own 5 (List.map encNote y8.2.1)), (10, vI y8.2.2), (11, .box [vS y10.1, vB y10.2.1, vS y10.2.2.1]), (12, .box [vI y10.2.2.2.1, vI y10.2.2.2.2.1, vS y10.2.2.2.2.2.1, vB y10.2.2.2.2.2.2.1, vS y10.2.2.2.2.2.2.2.1]), (13, vI y10.2.2.2.2.2.2.2.2), (77, .lent (.slot 7) 3 (List.map encImage y8.1)), (82, .loc 12 3)] (by kernel_rfl) <| OWk.done (by kernel_rfl) ?_
                        exact c33
                    have c98 : X 6 98 (sp 138 [(0, .d (.list 3 (List.map encImage p0))), (1, .d (.list 3 (List.map encImage p1))), (2, vI p2), (7, .own 3 (List.map encImage y8.1)), (9, .own 5 (List.map encNote y8.2.1)), (10, vI y8.2.2), (11, .box [vS y10.1, vB y10.2.1, vS y10.2.2.1]), (12, .box [vI y10.2.2.2.1, vI y10.2.2.2.2.1, vS y10.2.2.2.2.2.1, vB true, vS y10.2.2.2.2.2.2.2.1]), (13, vI y10.2.2.2.2.2.2.2.2), (78, vI y10.2.2.2.2.2.2.2.2)] H) := by
                      subst hX
                      refine OX.step (i0 := 0) (is := []) (by kernel_rfl) (by kernel_rfl) ⟨?_, trivial⟩
                      · refine OWk.sg 138 H [] [0, 1, 2, 7, 9, 10, 11, 12, 13, 77, 78] 1 [(0, .d (.list 3 (List.map encImage p0))), (1, .d (.list 3 (List.map encImage p1))), (2, vI p2), (7, .own 3 (List.map encImage y8.1)), (9, .own 5 (List.map encNote y8.2.1)), (10, vI y8.2.2), (11, .box [vS y10.1, vB y10.2.1, vS y10.2.2.1]), (12, .box [vI y10.2.2.2.1, vI y10.2.2.2.2.1, vS y10.2.2.2.2.2.1, vB true, vS y10.2.2.2.2.2.2.2.1]), (13, vI y10.2.2.2.2.2.2.2.2), (77, .lent (.slot 7) 3 (List.map encImage y8.1)), (78, vI y10.2.2.2.2.2.2.2.2)] (by kernel_rfl) <| OWk.done (by kernel_rfl) ?_
                        exact c99
                    have c34 : X 7 34 (sp 138 [(0, .d (.list 3 (List.map encImage p0))), (1, .d (.list 3 (List.map encImage p1))), (2, vI p2), (7, .own 3 (List.map encImage y8.1)), (9, .own 5 (List.map encNote y8.2.1)), (10, vI y8.2.2), (11, .box [vS y10.1, vB y10.2.1, vS y10.2.2.1]), (12, .box [vI y10.2.2.2.1, vI y10.2.2.2.2.1, vS y10.2.2.2.2.2.1, vB y10.2.2.2.2.2.2.1, vS y10.2.2.2.2.2.2.2.1]), (13, vI y10.2.2.2.2.2.2.2.2), (78, vI y10.2.2.2.2.2.2.2.2), (82, .loc 12 3)] H) := by
                      subst hX
                      refine OX.step (i0 := 0) (is := [6]) (by kernel_rfl) (by kernel_rfl) ⟨?_, ?_, trivial⟩
                      · refine OWk.sg 138 H [] [0, 1, 2, 7, 9, 10, 11, 12, 13, 77, 78, 82] 1 [(0, .d (.list 3 (List.map encImage p0))), (1, .d (.list 3 (List.map encImage p1))), (2, vI p2), (7, .own 3 (List.map encImage y8.1)), (9, .own 5 (List.map encNote y8.2.1)), (10, vI y8.2.2), (11, .box [vS y10.1, vB y10.2.1, vS y10.2.2.1]), (12, .box [vI y10.2.2.2.1, vI y10.2.2.2.2.1, vS y10.2.2.2.2.2.1, vB y10.2.2.2.2.2.2.1, vS y10.2.2.2.2.2.2.2.1]), (13, vI y10.2.2.2.2.2.2.2.2), (77, .lent (.slot 7) 3 (List.map encImage y8.1)), (78, vI y10.2.2.2.2.2.2.2.2), (82, .loc 12 3)] (by kernel_rfl) <| OWk.done (by kernel_rfl) ?_
                        exact c35
                      · refine OWk.sg 138 H [] [0, 1, 2, 7, 9, 10, 11, 12, 13, 78] 1 [(0, .d (.list 3 (List.map encImage p0))), (1, .d (.list 3 (List.map encImage p1))), (2, vI p2), (7, .own 3 (List.map encImage y8.1)), (9, .own 5 (List.map encNote y8.2.1)), (10, vI y8.2.2), (11, .box [vS y10.1, vB y10.2.1, vS y10.2.2.1]), (12, .box [vI y10.2.2.2.1, vI y10.2.2.2.2.1, vS y10.2.2.2.2.2.1, vB true, vS y10.2.2.2.2.2.2.2.1]), (13, vI y10.2.2.2.2.2.2.2.2), (78, vI y10.2.2.2.2.2.2.2.2)] (by kernel_rfl) <| OWk.done (by kernel_rfl) ?_
                        exact c98
                    have c2 : X 8 2 (sp 138 [(0, .d (.list 3 (List.map encImage p0))), (1, .d (.list 3 (List.map encImage p1))), (2, vI p2), (7, .own 3 (List.map encImage y8.1)), (9, .own 5 (List.map encNote y8.2.1)), (10, vI y8.2.2), (11, .box [vS y10.1, vB y10.2.1, vS y10.2.2.1]), (12, .box [vI y10.2.2.2.1, vI y10.2.2.2.2.1, vS y10.2.2.2.2.2.1, vB y10.2.2.2.2.2.2.1, vS y10.2.2.2.2.2.2.2.1]), (13, vI y10.2.2.2.2.2.2.2.2), (78, vI y10.2.2.2.2.2.2.2.2)] H) := by
                      subst hX
                      refine OX.step (i0 := 0) (is := [5]) (by kernel_rfl) (by kernel_rfl) ⟨?_, ?_, trivial⟩
                      · refine OWk.sg 138 H [] [0, 1, 2, 7, 9, 10, 11, 12, 13, 77, 78] 1 [(0, .d (.list 3 (List.map encImage p0))), (1, .d (.list 3 (List.map encImage p1))), (2, vI p2), (7, .own 3 (List.map encImage y8.1)), (9, .own 5 (List.map encNote y8.2.1)), (10, vI y8.2.2), (11, .box [vS y10.1, vB y10.2.1, vS y10.2.2.1]), (12, .box [vI y10.2.2.2.1, vI y10.2.2.2.2.1, vS y10.2.2.2.2.2.1, vB y10.2.2.2.2.2.2.1, vS y10.2.2.2.2.2.2.2.1]), (13, vI y10.2.2.2.2.2.2.2.2), (77, .lent (.slot 7) 3 (List.map encImage y8.1)), (78, vI y10.2.2.2.2.2.2.2.2)] (by kernel_rfl) <| OWk.done (by kernel_rfl) ?_
                        exact c3
                      · refine OWk.sg 138 H [] [0, 1, 2, 7, 9, 10, 11, 12, 13, 78, 82] 1 [(0, .d (.list 3 (List.map encImage p0))), (1, .d (.list 3 (List.map encImage p1))), (2, vI p2), (7, .own 3 (List.map encImage y8.1)), (9, .own 5 (List.map encNote y8.2.1)), (10, vI y8.2.2), (11, .box [vS y10.1, vB y10.2.1, vS y10.2.2.1]), (12, .box [vI y10.2.2.2.1, vI y10.2.2.2.2.1, vS y10.2.2.2.2.2.1, vB y10.2.2.2.2.2.2.1, vS y10.2.2.2.2.2.2.2.1]), (13, vI y10.2.2.2.2.2.2.2.2), (78, vI y10.2.2.2.2.2.2.2.2), (82, .loc 12 3)] (by kernel_rfl) <| OWk.done (by kernel_rfl) ?_
                        exact c34
                    have c96 : X 7 96 (sp 138 [(0, .d (.list 3 (List.map encImage p0))), (1, .d (.list 3 (List.map encImage p1))), (2, vI p2), (7, .own 3 (List.map encImage y8.1)), (9, .own 5 (List.map encNote y8.2.1)), (10, vI y8.2.2), (11, .box [vS y10.1, vB y10.2.1, vS y10.2.2.1]), (12, .box [vI y10.2.2.2.1, vI y10.2.2.2.2.1, vS y10.2.2.2.2.2.1, vB true, vS y10.2.2.2.2.2.2.2.1]), (13, vI y10.2.2.2.2.2.2.2.2)] H) := by
                      subst hX
                      refine OX.step (i0 := 0) (is := [1]) (by kernel_rfl) (by kernel_rfl) ⟨?_, ?_, trivial⟩
                      · refine OWk.sg 138 H [] [0, 1, 2, 7, 9, 10, 11, 12, 13, 77] 1 [(0, .d (.list 3 (List.map encImage p0))), (1, .d (.list 3 (List.map encImage p1))), (2, vI p2), (7, .own 3 (List.map encImage y8.1)), (9, .own 5 (List.map encNote y8.2.1)), (10, vI y8.2.2), (11, .box [vS y10.1, vB y10.2.1, vS y10.2.2.1]), (12, .box [vI y10.2.2.2.1, vI y10.2.2.2.2.1, vS y10.2.2.2.2.2.1, vB true, vS y10.2.2.2.2.2.2.2.1]), (13, vI y10.2.2.2.2.2.2.2.2), (77, .lent (.slot 7) 3 (List.map encImage y8.1))] (by kernel_rfl) <| OWk.done (by kernel_rfl) ?_
                        exact c97
                      · refine OWk.sg 138 H [] [0, 1, 2, 7, 9, 10, 11, 12, 13, 78] 1 [(0, .d (.list 3 (List.map encImage p0))), (1, .d (.list 3 (List.map encImage p1))), (2, vI p2), (7, .own 3 (List.map encImage y8.1)), (9, .own 5 (List.map encNote y8.2.1)), (10, vI y8.2.2), (11, .box [vS y10.1, vB y10.2.1, vS y10.2.2.1]), (12, .box [vI y10.2.2.2.1, vI y10.2.2.2.2.1, vS y10.2.2.2.2.2.1, vB true, vS y10.2.2.2.2.2.2.2.1]), (13, vI y10.2.2.2.2.2.2.2.2), (78, vI y10.2.2.2.2.2.2.2.2)] (by kernel_rfl) <| OWk.done (by kernel_rfl) ?_
                        exact c98
                    have c32 : X 8 32 (sp 138 [(0, .d (.list 3 (List.map encImage p0))), (1, .d (.list 3 (List.map encImage p1))), (2, vI p2), (7, .own 3 (List.map encImage y8.1)), (9, .own 5 (List.map encNote y8.2.1)), (10, vI y8.2.2), (11, .box [vS y10.1, vB y10.2.1, vS y10.2.2.1]), (12, .box [vI y10.2.2.2.1, vI y10.2.2.2.2.1, vS y10.2.2.2.2.2.1, vB y10.2.2.2.2.2.2.1, vS y10.2.2.2.2.2.2.2.1]), (13, vI y10.2.2.2.2.2.2.2.2), (82, .loc 12 3)] H) := by
                      subst hX
                      refine OX.step (i0 := 0) (is := [1, 6]) (by kernel_rfl) (by kernel_rfl) ⟨?_, ?_, ?_, trivial⟩
                      · refine OWk.sg 138 H [] [0, 1, 2, 7, 9, 10, 11, 12, 13, 77, 82] 1 [(0, .d (.list 3 (List.map encImage p0))), (1, .d (.list 3 (List.map encImage p1))), (2, vI p2), (7, .own 3 (List.map encImage y8.1)), (9, .own 5 (List.map encNote y8.2.1)), (10, vI y8.2.2), (11, .box [vS y10.1, vB y10.2.1, vS y10.2.2.1]), (12, .box [vI y10.2.2.2.1, vI y10.2.2.2.2.1, vS y10.2.2.2.2.2.1, vB y10.2.2.2.2.2.2.1, vS y10.2.2.2.2.2.2.2.1]), (13, vI y10.2.2.2.2.2.2.2.2), (77, .lent (.slot 7) 3 (List.map encImage y8.1)), (82, .loc 12 3)] (by kernel_rfl) <| OWk.done (by kernel_rfl) ?_
                        exact c33
                      · refine OWk.sg 138 H [] [0, 1, 2, 7, 9, 10, 11, 12, 13, 78, 82] 1 [(0, .d (.list 3 (List.map encImage p0))), (1, .d (.list 3 (List.map encImage p1))), (2, vI p2), (7, .own 3 (List.map encImage y8.1)), (9, .own 5 (List.map encNote y8.2.1)), (10, vI y8.2.2), (11, .box [vS y10.1, vB y10.2.1, vS y10.2.2.1]), (12, .box [vI y10.2.2.2.1, vI y10.2.2.2.2.1, vS y10.2.2.2.2.2.1, vB y10.2.2.2.2.2.2.1, vS y10.2.2.2.2.2.2.2.1]), (13, vI y10.2.2.2.2.2.2.2.2), (78, vI y10.2.2.2.2.2.2.2.2), (82, .loc 12 3)] (by kernel_rfl) <| OWk.done (by kernel_rfl) ?_
                        exact c34
                      · refine OWk.sg 138 H [] [0, 1, 2, 7, 9, 10, 11, 12, 13] 1 [(0, .d (.list 3 (List.map encImage p0))), (1, .d (.list 3 (List.map encImage p1))), (2, vI p2), (7, .own 3 (List.map encImage y8.1)), (9, .own 5 (List.map encNote y8.2.1)), (10, vI y8.2.2), (11, .box [vS y10.1, vB y10.2.1, vS y10.2.2.1]), (12, .box [vI y10.2.2.2.1, vI y10.2.2.2.2.1, vS y10.2.2.2.2.2.1, vB true, vS y10.2.2.2.2.2.2.2.1]), (13, vI y10.2.2.2.2.2.2.2.2)] (by kernel_rfl) <| OWk.done (by kernel_rfl) ?_
                        exact c96
                    have c0 : X 9 0 (sp 138 [(0, .d (.list 3 (List.map encImage p0))), (1, .d (.list 3 (List.map encImage p1))), (2, vI p2), (7, .own 3 (List.map encImage y8.1)), (9, .own 5 (List.map encNote y8.2.1)), (10, vI y8.2.2), (11, .box [vS y10.1, vB y10.2.1, vS y10.2.2.1]), (12, .box [vI y10.2.2.2.1, vI y10.2.2.2.2.1, vS y10.2.2.2.2.2.1, vB y10.2.2.2.2.2.2.1, vS y10.2.2.2.2.2.2.2.1]), (13, vI y10.2.2.2.2.2.2.2.2)] H) := by
                      subst hX
                      refine OX.step (i0 := 0) (is := [1, 5]) (by kernel_rfl) (by kernel_rfl) ⟨?_, ?_, ?_, trivial⟩
                      · refine OWk.sg 138 H [] [0, 1, 2, 7, 9, 10, 11, 12, 13, 77] 1 [(0, .d (.list 3 (List.map encImage p0))), (1, .d (.list 3 (List.map encImage p1))), (2, vI p2), (7, .own 3 (List.map encImage y8.1)), (9, .own 5 (List.map encNote y8.2.1)), (10, vI y8.2.2), (11, .box [vS y10.1, vB y10.2.1, vS y10.2.2.1]), (12, .box [vI y10.2.2.2.1, vI y10.2.2.2.2.1, vS y10.2.2.2.2.2.1, vB y10.2.2.2.2.2.2.1, vS y10.2.2.2.2.2.2.2.1]), (13, vI y10.2.2.2.2.2.2.2.2), (77, .lent (.slot 7) 3 (List.map encImage y8.1))] (by kernel_rfl) <| OWk.done (by kernel_rfl) ?_
                        exact c1
                      · refine OWk.sg 138 H [] [0, 1, 2, 7, 9, 10, 11, 12, 13, 78] 1 [(0, .d (.list 3 (List.map encImage p0))), (1, .d (.list 3 (List.map encImage p1))), (2, vI p2), (7, .own 3 (List.map encImage y8.1)), (9, .own 5 (List.map encNote y8.2.1)), (10, vI y8.2.2), (11, .box [vS y10.1, vB y10.2.1, vS y10.2.2.1]), (12, .box [vI y10.2.2.2.1, vI y10.2.2.2.2.1, vS y10.2.2.2.2.2.1, vB y10.2.2.2.2.2.2.1, vS y10.2.2.2.2.2.2.2.1]), (13, vI y10.2.2.2.2.2.2.2.2), (78, vI y10.2.2.2.2.2.2.2.2)] (by kernel_rfl) <| OWk.done (by kernel_rfl) ?_
                        exact c2
                      · refine OWk.sg 138 H [] [0, 1, 2, 7, 9, 10, 11, 12, 13, 82] 1 [(0, .d (.list 3 (List.map encImage p0))), (1, .d (.list 3 (List.map encImage p1))), (2, vI p2), (7, .own 3 (List.map encImage y8.1)), (9, .own 5 (List.map encNote y8.2.1)), (10, vI y8.2.2), (11, .box [vS y10.1, vB y10.2.1, vS y10.2.2.1]), (12, .box [vI y10.2.2.2.1, vI y10.2.2.2.2.1, vS y10.2.2.2.2.2.1, vB y10.2.2.2.2.2.2.1, vS y10.2.2.2.2.2.2.2.1]), (13, vI y10.2.2.2.2.2.2.2.2), (82, .loc 12 3)] (by kernel_rfl) <| OWk.done (by kernel_rfl) ?_
                        exact c32
                    exact c0
                  refine blockS_n <| thenS_n <| SW.regionK <| OWk.sg 138 H [] [0, 1, 2, 7, 9, 10, 11, 12, 13] 3 [(0, .d (.list 3 (List.map encImage p0))), (1, .d (.list 3 (List.map encImage p1))), (2, vI p2), (7, .own 3 (List.map encImage y8.1)), (9, .own 5 (List.map encNote y8.2.1)), (10, vI y8.2.2), (11, .box [vS y10.1, vB y10.2.1, vS y10.2.2.1]), (12, .box [vI y10.2.2.2.1, vI y10.2.2.2.2.1, vS y10.2.2.2.2.2.1, vB true, vS x12.Text]), (13, vI (IntKind.wrap .i64 (y10.2.2.2.2.2.2.2.2 + 1)))] (by kernel_rfl) <| OWk.done (by kernel_rfl) ?_
                  cases h
                  exact ⟨(y10.1, y10.2.1, y10.2.2.1, y10.2.2.2.1, y10.2.2.2.2.1, y10.2.2.2.2.2.1, true, x12.Text, (IntKind.wrap .i64 (y10.2.2.2.2.2.2.2.2 + 1))), rfl, by kernel_rfl⟩
                · replace h := bif_f hc h
                  refine SW.skip <| blockS_n <| thenS_n <| SW.regionK <| OWk.sg 138 H [] [0, 1, 2, 7, 9, 10, 11, 12, 13] 3 [(0, .d (.list 3 (List.map encImage p0))), (1, .d (.list 3 (List.map encImage p1))), (2, vI p2), (7, .own 3 (List.map encImage y8.1)), (9, .own 5 (List.map encNote y8.2.1)), (10, vI y8.2.2), (11, .box [vS y10.1, vB y10.2.1, vS y10.2.2.1]), (12, .box [vI y10.2.2.2.1, vI y10.2.2.2.2.1, vS y10.2.2.2.2.2.1, vB y10.2.2.2.2.2.2.1, vS y10.2.2.2.2.2.2.2.1]), (13, vI (IntKind.wrap .i64 (y10.2.2.2.2.2.2.2.2 + 1)))] (by kernel_rfl) <| OWk.done (by kernel_rfl) ?_
                  cases h
                  exact ⟨(y10.1, y10.2.1, y10.2.2.1, y10.2.2.2.1, y10.2.2.2.2.1, y10.2.2.2.2.2.1, y10.2.2.2.2.2.2.1, y10.2.2.2.2.2.2.2.1, (IntKind.wrap .i64 (y10.2.2.2.2.2.2.2.2 + 1))), rfl, by kernel_rfl⟩
              · replace h := bif_f hc h
                refine SW.kp 138 H [0, 1, 2, 7, 9, 10, 11, 12] [(0, .d (.list 3 (List.map encImage p0))), (1, .d (.list 3 (List.map encImage p1))), (2, vI p2), (7, .own 3 (List.map encImage y8.1)), (9, .own 5 (List.map encNote y8.2.1)), (10, vI y8.2.2), (11, .box [vS y10.1, vB y10.2.1, vS y10.2.2.1]), (12, .box [vI y10.2.2.2.1, vI y10.2.2.2.2.1, vS y10.2.2.2.2.2.1, vB y10.2.2.2.2.2.2.1, vS y10.2.2.2.2.2.2.2.1])] (by kernel_rfl) <| SW.exit <| thenS_e ?_
                cases h
                refine thenS_e ?_
                exact ⟨_, rfl, ⟨rfl, rfl⟩⟩
            · rintro _ _ ⟨rfl, rfl⟩
              refine blockS_hit <| thenS_n <| SW.seq <| SW.regionK <| OWk.sg 138 H [84] [0, 1, 2, 7, 10, 11, 84, 94] 11 [(0, .d (.list 3 (List.map encImage p0))), (1, .d (.list 3 (List.map encImage p1))), (2, vI p2), (7, .own 3 (List.map encImage y8.1)), (10, vI y8.2.2), (11, .box [vS v14.1, vB v14.2.1, vS v14.2.2.1]), (84, .own 5 (List.map encNote y8.2.1)), (94, .own 5 (List.map encNote [(⟨v14.2.2.2.1, v14.2.2.2.2.1, v14.2.2.2.2.2.1, v14.2.2.2.2.2.2.1, v14.2.2.2.2.2.2.2⟩ : Note), (⟨3, p2, v14.1, v14.2.1, v14.2.2.1⟩ : Note)]))] (by kernel_rfl) ?_
              obtain ⟨hk, h⟩ := chk_inv h
              refine OWk.app 138 H (s := 84) (d := 95) (w := 5) [0, 1, 2, 7, 10, 11, 95] (zs := List.map encNote (y8.2.1 ++ [(⟨v14.2.2.2.1, v14.2.2.2.2.1, v14.2.2.2.2.2.1, v14.2.2.2.2.2.2.1, v14.2.2.2.2.2.2.2⟩ : Note), (⟨3, p2, v14.1, v14.2.1, v14.2.2.1⟩ : Note)])) [(0, .d (.list 3 (List.map encImage p0))), (1, .d (.list 3 (List.map encImage p1))), (2, vI p2), (7, .own 3 (List.map encImage y8.1)), (10, vI y8.2.2), (11, .box [vS v14.1, vB v14.2.1, vS v14.2.2.1]), (95, .own 5 (List.map encNote (y8.2.1 ++ [(⟨v14.2.2.2.1, v14.2.2.2.2.1, v14.2.2.2.2.2.1, v14.2.2.2.2.2.2.1, v14.2.2.2.2.2.2.2⟩ : Note), (⟨3, p2, v14.1, v14.2.1, v14.2.2.1⟩ : Note)])))] (ys := (List.map encNote [(⟨v14.2.2.2.1, v14.2.2.2.2.1, v14.2.2.2.2.2.1, v14.2.2.2.2.2.2.1, v14.2.2.2.2.2.2.2⟩ : Note), (⟨3, p2, v14.1, v14.2.1, v14.2.2.1⟩ : Note)])) (by kernel_rfl) (map_append') (room_map hk) (by kernel_rfl) <| OWk.sg 138 H [84] [0, 1, 2, 7, 9, 10, 11] 1 [(0, .d (.list 3 (List.map encImage p0))), (1, .d (.list 3 (List.map encImage p1))), (2, vI p2), (7, .own 3 (List.map encImage y8.1)), (9, .own 5 (List.map encNote (y8.2.1 ++ [(⟨v14.2.2.2.1, v14.2.2.2.2.1, v14.2.2.2.2.2.1, v14.2.2.2.2.2.2.1, v14.2.2.2.2.2.2.2⟩ : Note), (⟨3, p2, v14.1, v14.2.1, v14.2.2.1⟩ : Note)]))), (10, vI y8.2.2), (11, .box [vS v14.1, vB v14.2.1, vS v14.2.2.1])] (by kernel_rfl) <| OWk.done (by kernel_rfl) <| thenS_n <| SW.seq <| SW.regionK <| OWk.sg 138 H [97] [0, 1, 2, 9, 10, 11, 97] 1 [(0, .d (.list 3 (List.map encImage p0))), (1, .d (.list 3 (List.map encImage p1))), (2, vI p2), (9, .own 5 (List.map encNote (y8.2.1 ++ [(⟨v14.2.2.2.1, v14.2.2.2.2.1, v14.2.2.2.2.2.1, v14.2.2.2.2.2.2.1, v14.2.2.2.2.2.2.2⟩ : Note), (⟨3, p2, v14.1, v14.2.1, v14.2.2.1⟩ : Note)]))), (10, vI y8.2.2), (11, .box [vS v14.1, vB v14.2.1, vS v14.2.2.1]), (97, .own 3 (List.map encImage y8.1))] (by kernel_rfl) <| OWk.fz 138 H 97 [0, 1, 2, 9, 10, 11, 97] [(0, .d (.list 3 (List.map encImage p0))), (1, .d (.list 3 (List.map encImage p1))), (2, vI p2), (9, .own 5 (List.map encNote (y8.2.1 ++ [(⟨v14.2.2.2.1, v14.2.2.2.2.1, v14.2.2.2.2.2.1, v14.2.2.2.2.2.2.1, v14.2.2.2.2.2.2.2⟩ : Note), (⟨3, p2, v14.1, v14.2.1, v14.2.2.1⟩ : Note)]))), (10, vI y8.2.2), (11, .box [vS v14.1, vB v14.2.1, vS v14.2.2.1]), (97, .d (.list 3 (List.map encImage y8.1)))] (by kernel_rfl) <| OWk.sg 138 H [97] [0, 1, 2, 9, 10, 97, 99] 2 [(0, .d (.list 3 (List.map encImage p0))), (1, .d (.list 3 (List.map encImage p1))), (2, vI p2), (9, .own 5 (List.map encNote (y8.2.1 ++ [(⟨v14.2.2.2.1, v14.2.2.2.2.1, v14.2.2.2.2.2.1, v14.2.2.2.2.2.2.1, v14.2.2.2.2.2.2.2⟩ : Note), (⟨3, p2, v14.1, v14.2.1, v14.2.2.1⟩ : Note)]))), (10, vI y8.2.2), (97, .d (.list 3 (List.map encImage y8.1))), (99, .own 3 (List.map encImage [(⟨v14.1, v14.2.1, v14.2.2.1⟩ : Image)]))] (by kernel_rfl) <| OWk.fz 138 H 99 [0, 1, 2, 9, 10, 97, 99] [(0, .d (.list 3 (List.map encImage p0))), (1, .d (.list 3 (List.map encImage p1))), (2, vI p2), (9, .own 5 (List.map encNote (y8.2.1 ++ [(⟨v14.2.2.2.1, v14.2.2.2.2.1, v14.2.2.2.2.2.1, v14.2.2.2.2.2.2.1, v14.2.2.2.2.2.2.2⟩ : Note), (⟨3, p2, v14.1, v14.2.1, v14.2.2.1⟩ : Note)]))), (10, vI y8.2.2), (97, .d (.list 3 (List.map encImage y8.1))), (99, .d (.list 3 (List.map encImage [(⟨v14.1, v14.2.1, v14.2.2.1⟩ : Image)])))] (by kernel_rfl) ?_
              obtain ⟨r15, hr, h⟩ := bind_inv h
              refine OWk.cl 138 H (d := some 100) (ls := []) (gs := []) [] [0, 1, 2, 9, 10, 100] [(0, .d (.list 3 (List.map encImage p0))), (1, .d (.list 3 (List.map encImage p1))), (2, vI p2), (9, .own 5 (List.map encNote (y8.2.1 ++ [(⟨v14.2.2.2.1, v14.2.2.2.2.1, v14.2.2.2.2.2.1, v14.2.2.2.2.2.2.1, v14.2.2.2.2.2.2.2⟩ : Note), (⟨3, p2, v14.1, v14.2.1, v14.2.2.1⟩ : Note)]))), (10, vI y8.2.2), (100, .tup [.own 3 (List.map encImage r15.1), vI r15.2])] (j_Apply_ok hr) (by kernel_rfl) (by kernel_rfl) (by kernel_rfl) <| OWk.sg 138 H [97] [0, 1, 2, 7, 8, 9, 10] 5 [(0, .d (.list 3 (List.map encImage p0))), (1, .d (.list 3 (List.map encImage p1))), (2, vI p2), (7, .own 3 (List.map encImage r15.1)), (8, vI r15.2), (9, .own 5 (List.map encNote (y8.2.1 ++ [(⟨v14.2.2.2.1, v14.2.2.2.2.1, v14.2.2.2.2.2.1, v14.2.2.2.2.2.2.1, v14.2.2.2.2.2.2.2⟩ : Note), (⟨3, p2, v14.1, v14.2.1, v14.2.2.1⟩ : Note)]))), (10, vI y8.2.2)] (by kernel_rfl) <| OWk.done (by kernel_rfl) <| thenS_n <| SW.seq <| SW.regionK <| OWk.sg 138 H [] [0, 1, 2, 7, 8, 9, 10, 104] 2 [(0, .d (.list 3 (List.map encImage p0))), (1, .d (.list 3 (List.map encImage p1))), (2, vI p2), (7, .own 3 (List.map encImage r15.1)), (8, vI r15.2), (9, .own 5 (List.map encNote (y8.2.1 ++ [(⟨v14.2.2.2.1, v14.2.2.2.2.1, v14.2.2.2.2.2.1, v14.2.2.2.2.2.2.1, v14.2.2.2.2.2.2.2⟩ : Note), (⟨3, p2, v14.1, v14.2.1, v14.2.2.1⟩ : Note)]))), (10, vI y8.2.2), (104, vB (r15.2 != 0))] (by kernel_rfl) <| OWk.done (by kernel_rfl) <| thenS_n ?_
              refine SW.condB (b := (r15.2 != 0)) (by kernel_rfl) (fun hc => ?_) (fun hc => ?_)
              · replace h := bif_t hc h
                refine SW.seq <| SW.regionK <| OWk.sg 138 H [] [8, 107] 3 [(8, vI r15.2), (107, vB (r15.2 == 1))] (by kernel_rfl) <| OWk.mg 138 H [110] 3 (r15.2 == 1) (fun b => (sp 138 [(8, vI r15.2), (107, vB b)] H)) (fun b => [(110, vB (b || (r15.2 == 4)))]) (by kernel_rfl) (by kernel_rfl) (by kernel_rfl) <| OWk.sg 138 H [] [111] 1 [(111, vB ((r15.2 == 1) || (r15.2 == 4)))] (by kernel_rfl) ?_
                refine OWk.case ((r15.2 == 1) || (r15.2 == 4)) (fun b => (sp 138 [(111, vB b)] H)) (by kernel_rfl) (fun hc => ?_) (fun hc => ?_)
                · replace h := bif_t hc h
                  obtain ⟨r16, hr, h⟩ := bind_inv h
                  refine OWk.cl 138 H (d := some 112) (ls := []) (gs := []) [] [111, 112] [(111, vB true), (112, vB r16)] (l_awake_ok hr) (by kernel_rfl) (by kernel_rfl) (by kernel_rfl) <| OWk.sg 138 H [] [6] 2 [(6, vB r16)] (by kernel_rfl) <| OWk.done (by kernel_rfl) <| thenS_n <| SW.ret <| blockS_r <| thenS_r ?_
                  cases h
                  refine thenS_r ?_
                  exact ⟨_, rfl, .inr (⟨r16, rfl, rfl, EndQ.ret [] (by kernel_rfl) rfl⟩)⟩
                · replace h := bif_f hc h
                  refine OWk.sg 138 H [] [6] 3 [(6, vB false)] (by kernel_rfl) <| OWk.done (by kernel_rfl) <| thenS_n <| SW.ret <| blockS_r <| thenS_r ?_
                  cases h
                  refine thenS_r ?_
                  exact ⟨_, rfl, .inr (⟨false, rfl, rfl, EndQ.ret [] (by kernel_rfl) rfl⟩)⟩
              · replace h := bif_f hc h
                refine SW.skip <| blockS_n <| thenS_n <| SW.regionK <| OWk.sg 138 H [] [0, 1, 2, 7, 9, 10] 3 [(0, .d (.list 3 (List.map encImage p0))), (1, .d (.list 3 (List.map encImage p1))), (2, vI p2), (7, .own 3 (List.map encImage r15.1)), (9, .own 5 (List.map encNote (y8.2.1 ++ [(⟨v14.2.2.2.1, v14.2.2.2.2.1, v14.2.2.2.2.2.1, v14.2.2.2.2.2.2.1, v14.2.2.2.2.2.2.2⟩ : Note), (⟨3, p2, v14.1, v14.2.1, v14.2.2.1⟩ : Note)]))), (10, vI (IntKind.wrap .i64 (y8.2.2 + 1)))] (by kernel_rfl) <| OWk.done (by kernel_rfl) ?_
                cases h
                exact ⟨(r15.1, (y8.2.1 ++ [(⟨v14.2.2.2.1, v14.2.2.2.2.1, v14.2.2.2.2.2.1, v14.2.2.2.2.2.2.1, v14.2.2.2.2.2.2.2⟩ : Note), (⟨3, p2, v14.1, v14.2.1, v14.2.2.1⟩ : Note)]), (IntKind.wrap .i64 (y8.2.2 + 1))), rfl, by kernel_rfl⟩
          · replace h := bif_f hc h
            refine SW.kp 138 H [0, 2, 7, 9] [(0, .d (.list 3 (List.map encImage p0))), (2, vI p2), (7, .own 3 (List.map encImage y8.1)), (9, .own 5 (List.map encNote y8.2.1))] (by kernel_rfl) <| SW.exit <| thenS_e ?_
            cases h
            refine thenS_e ?_
            exact ⟨_, rfl, .inl ⟨(y8.1, y8.2.1), rfl, rfl, rfl⟩⟩
        · rintro _ _ (⟨v18, rfl, rfl, rfl⟩ | ⟨r23, rfl, rfl, hE⟩)
          · replace h := sum_l h
            refine blockS_hit <| thenS_n <| SW.seq <| SW.regionK <| OWk.sg 138 H [115] [0, 2, 7, 115] 1 [(0, .d (.list 3 (List.map encImage p0))), (2, vI p2), (7, .own 3 (List.map encImage v18.1)), (115, .own 5 (List.map encNote v18.2))] (by kernel_rfl) <| OWk.fz 138 H 115 [0, 2, 7, 115] [(0, .d (.list 3 (List.map encImage p0))), (2, vI p2), (7, .own 3 (List.map encImage v18.1)), (115, .d (.list 5 (List.map encNote v18.2)))] (by kernel_rfl) <| OWk.sg 138 H [115] [0, 7, 115, 116] 1 [(0, .d (.list 3 (List.map encImage p0))), (7, .own 3 (List.map encImage v18.1)), (115, .d (.list 5 (List.map encNote v18.2))), (116, vI p2)] (by kernel_rfl) ?_
            obtain ⟨r19, hr, h⟩ := bind_inv h
            refine OWk.cl 138 H (d := some 117) (ls := []) (gs := []) [] [0, 7, 117] [(0, .d (.list 3 (List.map encImage p0))), (7, .own 3 (List.map encImage v18.1)), (117, .tup [.own 3 (List.map encImage r19.1), vI r19.2])] (j_Undo_ok hr) (by kernel_rfl) (by kernel_rfl) (by kernel_rfl) <| OWk.sg 138 H [115] [0, 7, 8, 14] 5 [(0, .d (.list 3 (List.map encImage p0))), (7, .own 3 (List.map encImage v18.1)), (8, vI r19.2), (14, .own 3 (List.map encImage r19.1))] (by kernel_rfl) <| OWk.done (by kernel_rfl) <| thenS_n <| SW.seq <| SW.seq <| SW.regionK <| OWk.sg 138 H [] [0, 7, 14, 121] 2 [(0, .d (.list 3 (List.map encImage p0))), (7, .own 3 (List.map encImage v18.1)), (14, .own 3 (List.map encImage r19.1)), (121, vB (r19.2 != 0))] (by kernel_rfl) <| OWk.done (by kernel_rfl) <| thenS_n ?_
            refine SW.condB (b := (r19.2 != 0)) (by kernel_rfl) (fun hc => ?_) (fun hc => ?_)
            · replace h := bif_t hc h
              refine SW.seq <| SW.regionK <| OWk.sg 138 H [] [6] 1 [(6, vB false)] (by kernel_rfl) <| OWk.done (by kernel_rfl) <| thenS_n <| SW.ret <| thenS_r ?_
              cases h
              exact EndQ.ret [] (by kernel_rfl) rfl
            · replace h := bif_f hc h
              refine SW.skip <| thenS_n <| SW.seq <| SW.regionK <| OWk.sg 138 H [123] [0, 14, 123] 1 [(0, .d (.list 3 (List.map encImage p0))), (14, .own 3 (List.map encImage r19.1)), (123, .own 3 (List.map encImage v18.1))] (by kernel_rfl) <| OWk.fz 138 H 123 [0, 14, 123] [(0, .d (.list 3 (List.map encImage p0))), (14, .own 3 (List.map encImage r19.1)), (123, .d (.list 3 (List.map encImage v18.1)))] (by kernel_rfl) <| OWk.sg 138 H [123, 124] [0, 123, 124] 1 [(0, .d (.list 3 (List.map encImage p0))), (123, .d (.list 3 (List.map encImage v18.1))), (124, .own 3 (List.map encImage r19.1))] (by kernel_rfl) <| OWk.fz 138 H 124 [0, 123, 124] [(0, .d (.list 3 (List.map encImage p0))), (123, .d (.list 3 (List.map encImage v18.1))), (124, .d (.list 3 (List.map encImage r19.1)))] (by kernel_rfl) ?_
              obtain ⟨r20, hr, h⟩ := bind_inv h
              refine OWk.cl 138 H (d := some 125) (ls := []) (gs := []) [] [0, 125] [(0, .d (.list 3 (List.map encImage p0))), (125, .tup [.own 3 (List.map encImage r20.1), vI r20.2])] (j_Apply_ok hr) (by kernel_rfl) (by kernel_rfl) (by kernel_rfl) <| OWk.sg 138 H [123, 124] [0, 8, 15] 5 [(0, .d (.list 3 (List.map encImage p0))), (8, vI r20.2), (15, .own 3 (List.map encImage r20.1))] (by kernel_rfl) <| OWk.done (by kernel_rfl) <| thenS_n <| SW.seq <| SW.regionK <| OWk.sg 138 H [] [0, 15, 130] 3 [(0, .d (.list 3 (List.map encImage p0))), (15, .own 3 (List.map encImage r20.1)), (130, vB (r20.2 == 0))] (by kernel_rfl) ?_
              refine OWk.case (r20.2 == 0) (fun b => (sp 138 [(0, .d (.list 3 (List.map encImage p0))), (15, .own 3 (List.map encImage r20.1)), (130, vB b)] H)) (by kernel_rfl) (fun hc => ?_) (fun hc => ?_)
              · replace h := bif_t hc h
                refine OWk.sg 138 H [131] [130, 131, 132] 2 [(130, vB true), (131, .own 3 (List.map encImage r20.1)), (132, .d (.list 3 (List.map encImage p0)))] (by kernel_rfl) ?_
                obtain ⟨r21, hr, h⟩ := bind_inv h
                refine OWk.cl 138 H (d := some 133) (ls := [(.slot 131)]) (gs := []) [] [130, 133] [(130, vB true), (133, vB r21)] (r_SameImages_ok hr) (by kernel_rfl) (by kernel_rfl) (by kernel_rfl) <| OWk.sg 138 H [131] [135] 2 [(135, vB r21)] (by kernel_rfl) ?_
                refine OWk.case r21 (fun b => (sp 138 [(135, vB b)] H)) (by kernel_rfl) (fun hc => ?_) (fun hc => ?_)
                · replace h := bif_t hc h
                  obtain ⟨r22, hr, h⟩ := bind_inv h
                  refine OWk.cl 138 H (d := some 136) (ls := []) (gs := []) [] [135, 136] [(135, vB true), (136, vB r22)] (l_awake_ok hr) (by kernel_rfl) (by kernel_rfl) (by kernel_rfl) <| OWk.sg 138 H [131] [6] 2 [(6, vB r22)] (by kernel_rfl) <| OWk.done (by kernel_rfl) <| thenS_n <| SW.ret ?_
                  cases h
                  exact EndQ.ret [] (by kernel_rfl) rfl
                · replace h := bif_f hc h
                  refine OWk.sg 138 H [131] [6] 3 [(6, vB false)] (by kernel_rfl) <| OWk.done (by kernel_rfl) <| thenS_n <| SW.ret ?_
                  cases h
                  exact EndQ.ret [] (by kernel_rfl) rfl
              · replace h := bif_f hc h
                refine OWk.sg 138 H [131] [6] 8 [(6, vB false)] (by kernel_rfl) <| OWk.done (by kernel_rfl) <| thenS_n <| SW.ret ?_
                cases h
                exact EndQ.ret [] (by kernel_rfl) rfl
          · replace h := sum_r h
            refine blockS_r <| thenS_r ?_
            cases h
            exact hE
  · refine SW.regionK <| OWk.sg 138 H [] [0, 1, 2, 16] 1 [(0, .d (.list 3 (List.map encImage p0))), (1, .d (.list 3 (List.map encImage p1))), (2, vI p2), (16, .d (.list 3 (List.map encImage p0)))] (by kernel_rfl) ?_
    obtain ⟨r3, hr, h⟩ := bind_inv h
    refine OWk.cl 138 H (d := some 17) (ls := []) (gs := []) [] [0, 1, 2, 17] [(0, .d (.list 3 (List.map encImage p0))), (1, .d (.list 3 (List.map encImage p1))), (2, vI p2), (17, vB r3)] (l_Images_ok hr) (by kernel_rfl) (by kernel_rfl) (by kernel_rfl) <| OWk.sg 138 H [] [0, 1, 2, 19] 2 [(0, .d (.list 3 (List.map encImage p0))), (1, .d (.list 3 (List.map encImage p1))), (2, vI p2), (19, vB (!r3))] (by kernel_rfl) ?_
    refine OWk.case (!r3) (fun b => (sp 138 [(0, .d (.list 3 (List.map encImage p0))), (1, .d (.list 3 (List.map encImage p1))), (2, vI p2), (19, vB b)] H)) (by kernel_rfl) (fun hc => ?_) (fun hc => ?_)
    · replace h := bif_t hc h
      refine OWk.sg 138 H [] [0, 1, 2, 36] 17 [(0, .d (.list 3 (List.map encImage p0))), (1, .d (.list 3 (List.map encImage p1))), (2, vI p2), (36, vB true)] (by kernel_rfl) <| OWk.done (by kernel_rfl) ?_
      exact ⟨true, [], by kernel_rfl, h⟩
    · replace h := bif_f hc h
      refine OWk.sg 138 H [] [0, 1, 2, 19, 20] 1 [(0, .d (.list 3 (List.map encImage p0))), (1, .d (.list 3 (List.map encImage p1))), (2, vI p2), (19, vB false), (20, .d (.list 3 (List.map encImage p1)))] (by kernel_rfl) ?_
      obtain ⟨r4, hr, h⟩ := bind_inv h
      refine OWk.cl 138 H (d := some 21) (ls := []) (gs := []) [] [0, 1, 2, 19, 21] [(0, .d (.list 3 (List.map encImage p0))), (1, .d (.list 3 (List.map encImage p1))), (2, vI p2), (19, vB false), (21, vB r4)] (l_Images_ok hr) (by kernel_rfl) (by kernel_rfl) (by kernel_rfl) <| OWk.sg 138 H [] [0, 1, 2, 24] 3 [(0, .d (.list 3 (List.map encImage p0))), (1, .d (.list 3 (List.map encImage p1))), (2, vI p2), (24, vB (!r4))] (by kernel_rfl) ?_
      refine OWk.case (!r4) (fun b => (sp 138 [(0, .d (.list 3 (List.map encImage p0))), (1, .d (.list 3 (List.map encImage p1))), (2, vI p2), (24, vB b)] H)) (by kernel_rfl) (fun hc => ?_) (fun hc => ?_)
      · replace h := bif_t hc h
        refine OWk.sg 138 H [] [0, 1, 2, 36] 12 [(0, .d (.list 3 (List.map encImage p0))), (1, .d (.list 3 (List.map encImage p1))), (2, vI p2), (36, vB true)] (by kernel_rfl) <| OWk.done (by kernel_rfl) ?_
        exact ⟨true, [], by kernel_rfl, h⟩
      · replace h := bif_f hc h
        refine OWk.sg 138 H [] [0, 1, 2, 24, 25] 1 [(0, .d (.list 3 (List.map encImage p0))), (1, .d (.list 3 (List.map encImage p1))), (2, vI p2), (24, vB false), (25, .d (.list 3 (List.map encImage p1)))] (by kernel_rfl) <| OWk.on 138 H (d := some 26) [0, 1, 2, 24, 26] [(0, .d (.list 3 (List.map encImage p0))), (1, .d (.list 3 (List.map encImage p1))), (2, vI p2), (24, vB false), (26, vI (p1.length : Int))] (BAt.len (enc := encImage) (xs := p1) (by kernel_rfl)) (by kernel_rfl) <| OWk.sg 138 H [] [0, 1, 2, 29] 3 [(0, .d (.list 3 (List.map encImage p0))), (1, .d (.list 3 (List.map encImage p1))), (2, vI p2), (29, vB (decide ((p1.length : Int) > 25)))] (by kernel_rfl) <| OWk.mg 138 H [0, 1, 2, 32] 3 (decide ((p1.length : Int) > 25)) (fun b => (sp 138 [(0, .d (.list 3 (List.map encImage p0))), (1, .d (.list 3 (List.map encImage p1))), (2, vI p2), (29, vB b)] H)) (fun b => [(0, .d (.list 3 (List.map encImage p0))), (1, .d (.list 3 (List.map encImage p1))), (2, vI p2), (32, vB (b || (decide (p2 < 1))))]) (by kernel_rfl) (by kernel_rfl) (by kernel_rfl) <| OWk.sg 138 H [] [0, 1, 2, 33] 1 [(0, .d (.list 3 (List.map encImage p0))), (1, .d (.list 3 (List.map encImage p1))), (2, vI p2), (33, vB ((decide ((p1.length : Int) > 25)) || (decide (p2 < 1))))] (by kernel_rfl) <| OWk.mg 138 H [0, 1, 2, 36] 3 ((decide ((p1.length : Int) > 25)) || (decide (p2 < 1))) (fun b => (sp 138 [(0, .d (.list 3 (List.map encImage p0))), (1, .d (.list 3 (List.map encImage p1))), (2, vI p2), (33, vB b)] H)) (fun b => [(0, .d (.list 3 (List.map encImage p0))), (1, .d (.list 3 (List.map encImage p1))), (2, vI p2), (36, vB (b || (decide (p2 > 1000))))]) (by kernel_rfl) (by kernel_rfl) (by kernel_rfl) <| OWk.done (by kernel_rfl) ?_
        exact ⟨(((decide ((p1.length : Int) > 25)) || (decide (p2 < 1))) || (decide (p2 > 1000))), [], by kernel_rfl, h⟩

end Go.Sh
