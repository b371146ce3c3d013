/- Printed by a program: functions of the program as plain functions, and that the code computes them. -/
import Derived.Test.YtjkhgfoecplbgaaGreatF2
set_option linter.all false
set_option autoImplicit true
set_option relaxedAutoImplicit true
open Go Go.Proofs
namespace Go.Sh
set_option linter.unusedVariables false
set_option linter.unusedSimpArgs false
set_option maxRecDepth 100000
noncomputable def l_JournalWrong (fuel : Nat) (p0 : (List Note)) (p1 : Int) (p2 : (List UInt8)) (p3 : Int) : Option (Bool) :=
  letJ (fun (j1 : Bool) =>
    bif j1 then
      (l_awake fuel).bind fun r4 =>
      some r4
    else
      (j_Wrong fuel p0).bind fun r5 =>
      (r_Wrong fuel p0).bind fun r6 =>
      bif ((r5.1 != r6.1) || (r5.2 != r6.2)) then
        some false
      else
        (j_Open fuel p0).bind fun r7 =>
        (r_Open fuel p0).bind fun r8 =>
        letJ (fun (j9 : Bool) =>
          bif j9 then
            some false
          else
            (j_Ended fuel p0).bind fun r12 =>
            (r_Ended fuel p0).bind fun r13 =>
            letJ (fun (j14 : Bool) =>
              bif j14 then
                some false
              else
                (j_Quiet fuel p0 p1).bind fun r17 =>
                (r_QuietAt fuel p0 p1).bind fun r18 =>
                bif ((r17.1 != r18.1) || (r17.2 != r18.2)) then
                  some false
                else
                  (j_Keys fuel p0 p1).bind fun r19 =>
                  (r_Keys fuel p0 p1).bind fun r20 =>
                  letJ (fun (j21 : Bool) =>
                    bif j21 then
                      some false
                    else
                      (j_Dump fuel p0 p2).bind fun r24 =>
                      (r_DumpAt fuel p0 p2).bind fun r25 =>
                      bif ((r24.1 != r25.1) || (r24.2 != r25.2)) then
                        some false
                      else
                        (j_Cut fuel p0 p3).bind fun r26 =>
                        (r_Cut fuel p0 p3).bind fun r27 =>
                        bif (r26.2 == r27.2) then
                          (r_SameNotes fuel r26.1 r27.1).bind fun r28 =>
                          bif r28 then
                            (l_awake fuel).bind fun r29 =>
                            some r29
                          else
                            some false
                        else
                          some false) fun jp22 =>
                  bif (r19.2 != r20.2) then
                    jp22 true
                  else
                    (r03_SameNames fuel r19.1 r20.1).bind fun r23 =>
                    jp22 (!r23)) fun jp15 =>
            bif (r12.2 != r13.2) then
              jp15 true
            else
              (r10_SameInts fuel r12.1 r13.1).bind fun r16 =>
              jp15 (!r16)) fun jp10 =>
        bif (r7.2 != r8.2) then
          jp10 true
        else
          (r10_SameInts fuel r7.1 r8.1).bind fun r11 =>
          jp10 (!r11)) fun jp2 =>
  (l_Notes fuel p0).bind fun r3 =>
  bif (!r3) then
    jp2 true
  else
    jp2 (decide ((p2.length : Int) > 100))
theorem l_JournalWrong_ok {fuel : Nat} {p0 : (List Note)} {p1 : Int} {p2 : (List UInt8)} {p3 : Int} {r : Bool} (h : l_JournalWrong fuel p0 p1 p2 p3 = some r) : PC Tryz.prog 3 [.d (.list 5 (List.map encNote p0)), vI p1, vS p2, vI p3] (vB r) := by
  refine PC.of_SW Tryz.func3 rfl fun H => ?_
  unfold l_JournalWrong at h
  refine SW.kp 168 H [0, 1, 2, 3] [(0, .d (.list 5 (List.map encNote p0))), (1, vI p1), (2, vS p2), (3, vI p3)] (by kernel_rfl) <| SW.seq <| SW.regionK <| OWk.sg 168 H [] [0, 1, 2, 3] 1 [(0, .d (.list 5 (List.map encNote p0))), (1, vI p1), (2, vS p2), (3, vI p3)] (by kernel_rfl) <| OWk.done (by kernel_rfl) <| thenS_n <| SW.seq ?_
  obtain ⟨jp2, hjjp2, h⟩ := letJ_inv h
  refine SW.jn 168 H [0, 1, 2, 3, 26] (fun (j1 : Bool) => [(0, .d (.list 5 (List.map encNote p0))), (1, vI p1), (2, vS p2), (3, vI p3), (26, vB j1)]) (fun v => jp2 v = some r) (fun j1 h => ?_) ?_
  · rw [hjjp2] at h
    refine SW.condB (b := j1) (by kernel_rfl) (fun hc => ?_) (fun hc => ?_)
    · replace h := bif_t hc h
      refine SW.seq <| SW.regionK ?_
      obtain ⟨r4, hr, h⟩ := bind_inv h
      refine OWk.cl 168 H (d := some 27) (ls := []) (gs := []) [] [27] [(27, vB r4)] (l_awake_ok hr) (by kernel_rfl) (by kernel_rfl) (by kernel_rfl) <| OWk.sg 168 H [] [8] 1 [(8, vB r4)] (by kernel_rfl) <| OWk.done (by kernel_rfl) <| thenS_n <| SW.ret <| thenS_r ?_
      cases h
      exact EndQ.ret [] (by kernel_rfl) rfl
    · replace h := bif_f hc h
      refine SW.skip <| thenS_n <| SW.seq <| SW.regionK <| OWk.sg 168 H [] [0, 1, 2, 3, 29] 1 [(0, .d (.list 5 (List.map encNote p0))), (1, vI p1), (2, vS p2), (3, vI p3), (29, .d (.list 5 (List.map encNote p0)))] (by kernel_rfl) ?_
      obtain ⟨r5, hr, h⟩ := bind_inv h
      refine OWk.cl 168 H (d := some 30) (ls := []) (gs := []) [] [0, 1, 2, 3, 30] [(0, .d (.list 5 (List.map encNote p0))), (1, vI p1), (2, vS p2), (3, vI p3), (30, .tup [vI r5.1, vI r5.2])] (j_Wrong_ok hr) (by kernel_rfl) (by kernel_rfl) (by kernel_rfl) <| OWk.sg 168 H [] [0, 1, 2, 3, 9, 10] 5 [(0, .d (.list 5 (List.map encNote p0))), (1, vI p1), (2, vS p2), (3, vI p3), (9, vI r5.1), (10, vI r5.2)] (by kernel_rfl) <| OWk.done (by kernel_rfl) <| thenS_n <| SW.seq <| SW.regionK <| OWk.sg 168 H [] [0, 1, 2, 3, 9, 10, 34] 1 [(0, .d (.list 5 (List.map encNote p0))), (1, vI p1), (2, vS p2), (3, vI p3), (9, vI r5.1), (10, vI r5.2), (34, .d (.list 5 (List.map encNote p0)))] (by kernel_rfl) ?_
      obtain ⟨r6, hr, h⟩ := bind_inv h
      refine OWk.cl 168 H (d := some 35) (ls := []) (gs := []) [] [0, 1, 2, 3, 9, 10, 35] [(0, .d (.list 5 (List.map encNote p0))), (1, vI p1), (2, vS p2), (3, vI p3), (9, vI r5.1), (10, vI r5.2), (35, .tup [vI r6.1, vI r6.2])] (r_Wrong_ok hr) (by kernel_rfl) (by kernel_rfl) (by kernel_rfl) <| OWk.sg 168 H [] [0, 1, 2, 3, 9, 10, 11, 12] 5 [(0, .d (.list 5 (List.map encNote p0))), (1, vI p1), (2, vS p2), (3, vI p3), (9, vI r5.1), (10, vI r5.2), (11, vI r6.1), (12, vI r6.2)] (by kernel_rfl) <| OWk.done (by kernel_rfl) <| thenS_n <| SW.seq <| SW.seq <| SW.regionK <| OWk.sg 168 H [] [0, 1, 2, 3, 10, 12, 41] 4 [(0, .d (.list 5 (List.map encNote p0))), (1, vI p1), (2, vS p2), (3, vI p3), (10, vI r5.2), (12, vI r6.2), (41, vB (r5.1 != r6.1))] (by kernel_rfl) <| OWk.mg 168 H [0, 1, 2, 3, 45] 4 (r5.1 != r6.1) (fun b => (sp 168 [(0, .d (.list 5 (List.map encNote p0))), (1, vI p1), (2, vS p2), (3, vI p3), (10, vI r5.2), (12, vI r6.2), (41, vB b)] H)) (fun b => [(0, .d (.list 5 (List.map encNote p0))), (1, vI p1), (2, vS p2), (3, vI p3), (45, vB (b || (r5.2 != r6.2)))]) (by kernel_rfl) (by kernel_rfl) (by kernel_rfl) <| OWk.done (by kernel_rfl) <| thenS_n ?_
      refine SW.condB (b := ((r5.1 != r6.1) || (r5.2 != r6.2))) (by kernel_rfl) (fun hc => ?_) (fun hc => ?_)
      · replace h := bif_t hc h
        refine SW.seq <| SW.regionK <| OWk.sg 168 H [] [8] 1 [(8, vB false)] (by kernel_rfl) <| OWk.done (by kernel_rfl) <| thenS_n <| SW.ret <| thenS_r ?_
        cases h
        exact EndQ.ret [] (by kernel_rfl) rfl
      · replace h := bif_f hc h
        refine SW.skip <| thenS_n <| SW.seq <| SW.regionK <| OWk.sg 168 H [] [0, 1, 2, 3, 47] 1 [(0, .d (.list 5 (List.map encNote p0))), (1, vI p1), (2, vS p2), (3, vI p3), (47, .d (.list 5 (List.map encNote p0)))] (by kernel_rfl) ?_
        obtain ⟨r7, hr, h⟩ := bind_inv h
        refine OWk.cl 168 H (d := some 48) (ls := []) (gs := []) [] [0, 1, 2, 3, 48] [(0, .d (.list 5 (List.map encNote p0))), (1, vI p1), (2, vS p2), (3, vI p3), (48, .tup [.own 1 (List.map (D.int .i64) r7.1), vI r7.2])] (j_Open_ok hr) (by kernel_rfl) (by kernel_rfl) (by kernel_rfl) <| OWk.sg 168 H [] [0, 1, 2, 3, 10, 13] 5 [(0, .d (.list 5 (List.map encNote p0))), (1, vI p1), (2, vS p2), (3, vI p3), (10, vI r7.2), (13, .own 1 (List.map (D.int .i64) r7.1))] (by kernel_rfl) <| OWk.done (by kernel_rfl) <| thenS_n <| SW.seq <| SW.regionK <| OWk.sg 168 H [] [0, 1, 2, 3, 10, 13, 52] 1 [(0, .d (.list 5 (List.map encNote p0))), (1, vI p1), (2, vS p2), (3, vI p3), (10, vI r7.2), (13, .own 1 (List.map (D.int .i64) r7.1)), (52, .d (.list 5 (List.map encNote p0)))] (by kernel_rfl) ?_
        obtain ⟨r8, hr, h⟩ := bind_inv h
        refine OWk.cl 168 H (d := some 53) (ls := []) (gs := []) [] [0, 1, 2, 3, 10, 13, 53] [(0, .d (.list 5 (List.map encNote p0))), (1, vI p1), (2, vS p2), (3, vI p3), (10, vI r7.2), (13, .own 1 (List.map (D.int .i64) r7.1)), (53, .tup [.own 1 (List.map (D.int .i64) r8.1), vI r8.2])] (r_Open_ok hr) (by kernel_rfl) (by kernel_rfl) (by kernel_rfl) <| OWk.sg 168 H [] [0, 1, 2, 3, 10, 12, 13, 14] 5 [(0, .d (.list 5 (List.map encNote p0))), (1, vI p1), (2, vS p2), (3, vI p3), (10, vI r7.2), (12, vI r8.2), (13, .own 1 (List.map (D.int .i64) r7.1)), (14, .own 1 (List.map (D.int .i64) r8.1))] (by kernel_rfl) <| OWk.done (by kernel_rfl) <| thenS_n <| SW.seq ?_
        obtain ⟨jp10, hjjp10, h⟩ := letJ_inv h
        refine SW.jn 168 H [0, 1, 2, 3, 64] (fun (j9 : Bool) => [(0, .d (.list 5 (List.map encNote p0))), (1, vI p1), (2, vS p2), (3, vI p3), (64, vB j9)]) (fun v => jp10 v = some r) (fun j9 h => ?_) ?_
        · rw [hjjp10] at h
          refine SW.condB (b := j9) (by kernel_rfl) (fun hc => ?_) (fun hc => ?_)
          · replace h := bif_t hc h
            refine SW.seq <| SW.regionK <| OWk.sg 168 H [] [8] 1 [(8, vB false)] (by kernel_rfl) <| OWk.done (by kernel_rfl) <| thenS_n <| SW.ret <| thenS_r ?_
            cases h
            exact EndQ.ret [] (by kernel_rfl) rfl
          · replace h := bif_f hc h
            refine SW.skip <| thenS_n <| SW.seq <| SW.regionK <| OWk.sg 168 H [] [0, 1, 2, 3, 66] 1 [(0, .d (.list 5 (List.map encNote p0))), (1, vI p1), (2, vS p2), (3, vI p3), (66, .d (.list 5 (List.map encNote p0)))] (by kernel_rfl) ?_
            obtain ⟨r12, hr, h⟩ := bind_inv h
            refine OWk.cl 168 H (d := some 67) (ls := []) (gs := []) [] [0, 1, 2, 3, 67] [(0, .d (.list 5 (List.map encNote p0))), (1, vI p1), (2, vS p2), (3, vI p3), (67, .tup [.own 1 (List.map (D.int .i64) r12.1), vI r12.2])] (j_Ended_ok hr) (by kernel_rfl) (by kernel_rfl) (by kernel_rfl) <| OWk.sg 168 H [] [0, 1, 2, 3, 10, 13] 5 [(0, .d (.list 5 (List.map encNote p0))), (1, vI p1), (2, vS p2), (3, vI p3), (10, vI r12.2), (13, .own 1 (List.map (D.int .i64) r12.1))] (by kernel_rfl) <| OWk.done (by kernel_rfl) <| thenS_n <| SW.seq <| SW.regionK <| OWk.sg 168 H [] [0, 1, 2, 3, 10, 13, 71] 1 [(0, .d (.list 5 (List.map encNote p0))), (1, vI p1), (2, vS p2), (3, vI p3), (10, vI r12.2), (13, .own 1 (List.map (D.int .i64) r12.1)), (71, .d (.list 5 (List.map encNote p0)))] (by kernel_rfl) ?_
            obtain ⟨r13, hr, h⟩ := bind_inv h
            refine OWk.cl 168 H (d := some 72) (ls := []) (gs := []) [] [0, 1, 2, 3, 10, 13, 72] [(0, .d (.list 5 (List.map encNote p0))), (1, vI p1), (2, vS p2), (3, vI p3), (10, vI r12.2), (13, .own 1 (List.map (D.int .i64) r12.1)), (72, .tup [.own 1 (List.map (D.int .i64) r13.1), vI r13.2])] (r_Ended_ok hr) (by kernel_rfl) (by kernel_rfl) (by kernel_rfl) <| OWk.sg 168 H [] [0, 1, 2, 3, 10, 12, 13, 14] 5 [(0, .d (.list 5 (List.map encNote p0))), (1, vI p1), (2, vS p2), (3, vI p3), (10, vI r12.2), (12, vI r13.2), (13, .own 1 (List.map (D.int .i64) r12.1)), (14, .own 1 (List.map (D.int .i64) r13.1))] (by kernel_rfl) <| OWk.done (by kernel_rfl) <| thenS_n <| SW.seq ?_
            obtain ⟨jp15, hjjp15, h⟩ := letJ_inv h
            refine SW.jn 168 H [0, 1, 2, 3, 83] (fun (j14 : Bool) => [(0, .d (.list 5 (List.map encNote p0))), (1, vI p1), (2, vS p2), (3, vI p3), (83, vB j14)]) (fun v => jp15 v = some r) (fun j14 h => ?_) ?_
            · rw [hjjp15] at h
              refine SW.condB (b := j14) (by kernel_rfl) (fun hc => ?_) (fun hc => ?_)
              · replace h := bif_t hc h
                refine SW.seq <| SW.regionK <| OWk.sg 168 H [] [8] 1 [(8, vB false)] (by kernel_rfl) <| OWk.done (by kernel_rfl) <| thenS_n <| SW.ret <| thenS_r ?_
                cases h
                exact EndQ.ret [] (by kernel_rfl) rfl
              · replace h := bif_f hc h
                refine SW.skip <| thenS_n <| SW.seq <| SW.regionK <| OWk.sg 168 H [] [0, 1, 2, 3, 85, 86] 2 [(0, .d (.list 5 (List.map encNote p0))), (1, vI p1), (2, vS p2), (3, vI p3), (85, .d (.list 5 (List.map encNote p0))), (86, vI p1)] (by kernel_rfl) ?_
                obtain ⟨r17, hr, h⟩ := bind_inv h
                refine OWk.cl 168 H (d := some 87) (ls := []) (gs := []) [] [0, 1, 2, 3, 87] [(0, .d (.list 5 (List.map encNote p0))), (1, vI p1), (2, vS p2), (3, vI p3), (87, .tup [vI r17.1, vI r17.2])] (j_Quiet_ok hr) (by kernel_rfl) (by kernel_rfl) (by kernel_rfl) <| OWk.sg 168 H [] [0, 1, 2, 3, 9, 10] 5 [(0, .d (.list 5 (List.map encNote p0))), (1, vI p1), (2, vS p2), (3, vI p3), (9, vI r17.1), (10, vI r17.2)] (by kernel_rfl) <| OWk.done (by kernel_rfl) <| thenS_n <| SW.seq <| SW.regionK <| OWk.sg 168 H [] [0, 1, 2, 3, 9, 10, 91, 92] 2 [(0, .d (.list 5 (List.map encNote p0))), (1, vI p1), (2, vS p2), (3, vI p3), (9, vI r17.1), (10, vI r17.2), (91, .d (.list 5 (List.map encNote p0))), (92, vI p1)] (by kernel_rfl) ?_
                obtain ⟨r18, hr, h⟩ := bind_inv h
                refine OWk.cl 168 H (d := some 93) (ls := []) (gs := []) [] [0, 1, 2, 3, 9, 10, 93] [(0, .d (.list 5 (List.map encNote p0))), (1, vI p1), (2, vS p2), (3, vI p3), (9, vI r17.1), (10, vI r17.2), (93, .tup [vI r18.1, vI r18.2])] (r_QuietAt_ok hr) (by kernel_rfl) (by kernel_rfl) (by kernel_rfl) <| OWk.sg 168 H [] [0, 1, 2, 3, 9, 10, 11, 12] 5 [(0, .d (.list 5 (List.map encNote p0))), (1, vI p1), (2, vS p2), (3, vI p3), (9, vI r17.1), (10, vI r17.2), (11, vI r18.1), (12, vI r18.2)] (by kernel_rfl) <| OWk.done (by kernel_rfl) <| thenS_n <| SW.seq <| SW.seq <| SW.regionK <| OWk.sg 168 H [] [0, 1, 2, 3, 10, 12, 99] 4 [(0, .d (.list 5 (List.map encNote p0))), (1, vI p1), (2, vS p2), (3, vI p3), (10, vI r17.2), (12, vI r18.2), (99, vB (r17.1 != r18.1))] (by kernel_rfl) <| OWk.mg 168 H [0, 1, 2, 3, 103] 4 (r17.1 != r18.1) (fun b => (sp 168 [(0, .d (.list 5 (List.map encNote p0))), (1, vI p1), (2, vS p2), (3, vI p3), (10, vI r17.2), (12, vI r18.2), (99, vB b)] H)) (fun b => [(0, .d (.list 5 (List.map encNote p0))), (1, vI p1), (2, vS p2), (3, vI p3), (103, vB (b || (r17.2 != r18.2)))]) (by kernel_rfl) (by kernel_rfl) (by kernel_rfl) <| OWk.done (by kernel_rfl) <| thenS_n ?_
                refine SW.condB (b := ((r17.1 != r18.1) || (r17.2 != r18.2))) (by kernel_rfl) (fun hc => ?_) (fun hc => ?_)
                · replace h := bif_t hc h
                  refine SW.seq <| SW.regionK <| OWk.sg 168 H [] [8] 1 [(8, vB false)] (by kernel_rfl) <| OWk.done (by kernel_rfl) <| thenS_n <| SW.ret <| thenS_r ?_
                  cases h
                  exact EndQ.ret [] (by kernel_rfl) rfl
                · replace h := bif_f hc h
                  refine SW.skip <| thenS_n <| SW.seq <| SW.regionK <| OWk.sg 168 H [] [0, 1, 2, 3, 105, 106] 2 [(0, .d (.list 5 (List.map encNote p0))), (1, vI p1), (2, vS p2), (3, vI p3), (105, .d (.list 5 (List.map encNote p0))), (106, vI p1)] (by kernel_rfl) ?_
                  obtain ⟨r19, hr, h⟩ := bind_inv h
                  refine OWk.cl 168 H (d := some 107) (ls := []) (gs := []) [] [0, 1, 2, 3, 107] [(0, .d (.list 5 (List.map encNote p0))), (1, vI p1), (2, vS p2), (3, vI p3), (107, .tup [.own 1 (List.map D.str r19.1), vI r19.2])] (j_Keys_ok hr) (by kernel_rfl) (by kernel_rfl) (by kernel_rfl) <| OWk.sg 168 H [] [0, 1, 2, 3, 10, 15] 5 [(0, .d (.list 5 (List.map encNote p0))), (1, vI p1), (2, vS p2), (3, vI p3), (10, vI r19.2), (15, .own 1 (List.map D.str r19.1))] (by kernel_rfl) <| OWk.done (by kernel_rfl) <| thenS_n <| SW.seq <| SW.regionK <| OWk.sg 168 H [] [0, 2, 3, 10, 15, 111, 112] 2 [(0, .d (.list 5 (List.map encNote p0))), (2, vS p2), (3, vI p3), (10, vI r19.2), (15, .own 1 (List.map D.str r19.1)), (111, .d (.list 5 (List.map encNote p0))), (112, vI p1)] (by kernel_rfl) ?_
                  obtain ⟨r20, hr, h⟩ := bind_inv h
                  refine OWk.cl 168 H (d := some 113) (ls := []) (gs := []) [] [0, 2, 3, 10, 15, 113] [(0, .d (.list 5 (List.map encNote p0))), (2, vS p2), (3, vI p3), (10, vI r19.2), (15, .own 1 (List.map D.str r19.1)), (113, .tup [.own 1 (List.map D.str r20.1), vI r20.2])] (r_Keys_ok hr) (by kernel_rfl) (by kernel_rfl) (by kernel_rfl) <| OWk.sg 168 H [] [0, 2, 3, 10, 12, 15, 16] 5 [(0, .d (.list 5 (List.map encNote p0))), (2, vS p2), (3, vI p3), (10, vI r19.2), (12, vI r20.2), (15, .own 1 (List.map D.str r19.1)), (16, .own 1 (List.map D.str r20.1))] (by kernel_rfl) <| OWk.done (by kernel_rfl) <| thenS_n <| SW.seq ?_
                  obtain ⟨jp22, hjjp22, h⟩ := letJ_inv h
                  refine SW.jn 168 H [0, 2, 3, 124] (fun (j21 : Bool) => [(0, .d (.list 5 (List.map encNote p0))), (2, vS p2), (3, vI p3), (124, vB j21)]) (fun v => jp22 v = some r) (fun j21 h => ?_) ?_
                  · rw [hjjp22] at h
                    refine SW.condB (b := j21) (by kernel_rfl) (fun hc => ?_) (fun hc => ?_)
                    · replace h := bif_t hc h
                      refine SW.seq <| SW.regionK <| OWk.sg 168 H [] [8] 1 [(8, vB false)] (by kernel_rfl) <| OWk.done (by kernel_rfl) <| thenS_n <| SW.ret <| thenS_r ?_
                      cases h
                      exact EndQ.ret [] (by kernel_rfl) rfl
                    · replace h := bif_f hc h
                      refine SW.skip <| thenS_n <| SW.seq <| SW.regionK <| OWk.sg 168 H [] [0, 2, 3, 126, 127] 2 [(0, .d (.list 5 (List.map encNote p0))), (2, vS p2), (3, vI p3), (126, .d (.list 5 (List.map encNote p0))), (127, vS p2)] (by kernel_rfl) ?_
                      obtain ⟨r24, hr, h⟩ := bind_inv h
                      refine OWk.cl 168 H (d := some 128) (ls := []) (gs := []) [] [0, 2, 3, 128] [(0, .d (.list 5 (List.map encNote p0))), (2, vS p2), (3, vI p3), (128, .tup [vI r24.1, vI r24.2])] (j_Dump_ok hr) (by kernel_rfl) (by kernel_rfl) (by kernel_rfl) <| OWk.sg 168 H [] [0, 2, 3, 9, 10] 5 [(0, .d (.list 5 (List.map encNote p0))), (2, vS p2), (3, vI p3), (9, vI r24.1), (10, vI r24.2)] (by kernel_rfl) <| OWk.done (by kernel_rfl) <| thenS_n <| SW.seq <| SW.regionK <| OWk.sg 168 H [] [0, 3, 9, 10, 132, 133] 2 [(0, .d (.list 5 (List.map encNote p0))), (3, vI p3), (9, vI r24.1), (10, vI r24.2), (132, .d (.list 5 (List.map encNote p0))), (133, vS p2)] (by kernel_rfl) ?_
                      obtain ⟨r25, hr, h⟩ := bind_inv h
                      refine OWk.cl 168 H (d := some 134) (ls := []) (gs := []) [] [0, 3, 9, 10, 134] [(0, .d (.list 5 (List.map encNote p0))), (3, vI p3), (9, vI r24.1), (10, vI r24.2), (134, .tup [vI r25.1, vI r25.2])] (r_DumpAt_ok hr) (by kernel_rfl) (by kernel_rfl) (by kernel_rfl) <| OWk.sg 168 H [] [0, 3, 9, 10, 11, 12] 5 [(0, .d (.list 5 (List.map encNote p0))), (3, vI p3), (9, vI r24.1), (10, vI r24.2), (11, vI r25.1), (12, vI r25.2)] (by kernel_rfl) <| OWk.done (by kernel_rfl) <| thenS_n <| SW.seq <| SW.seq <| SW.regionK <| OWk.sg 168 H [] [0, 3, 10, 12, 140] 4 [(0, .d (.list 5 (List.map encNote p0))), (3, vI p3), (10, vI r24.2), (12, vI r25.2), (140, vB (r24.1 != r25.1))] (by kernel_rfl) <| OWk.mg 168 H [0, 3, 144] 4 (r24.1 != r25.1) (fun b => (sp 168 [(0, .d (.list 5 (List.map encNote p0))), (3, vI p3), (10, vI r24.2), (12, vI r25.2), (140, vB b)] H)) (fun b => [(0, .d (.list 5 (List.map encNote p0))), (3, vI p3), (144, vB (b || (r24.2 != r25.2)))]) (by kernel_rfl) (by kernel_rfl) (by kernel_rfl) <| OWk.done (by kernel_rfl) <| thenS_n ?_
                      refine SW.condB (b := ((r24.1 != r25.1) || (r24.2 != r25.2))) (by kernel_rfl) (fun hc => ?_) (fun hc => ?_)
                      · replace h := bif_t hc h
                        refine SW.seq <| SW.regionK <| OWk.sg 168 H [] [8] 1 [(8, vB false)] (by kernel_rfl) <| OWk.done (by kernel_rfl) <| thenS_n <| SW.ret <| thenS_r ?_
                        cases h
                        exact EndQ.ret [] (by kernel_rfl) rfl
                      · replace h := bif_f hc h
                        refine SW.skip <| thenS_n <| SW.seq <| SW.regionK <| OWk.sg 168 H [] [0, 3, 146, 147] 2 [(0, .d (.list 5 (List.map encNote p0))), (3, vI p3), (146, .d (.list 5 (List.map encNote p0))), (147, vI p3)] (by kernel_rfl) ?_
                        obtain ⟨r26, hr, h⟩ := bind_inv h
                        refine OWk.cl 168 H (d := some 148) (ls := []) (gs := []) [] [0, 3, 148] [(0, .d (.list 5 (List.map encNote p0))), (3, vI p3), (148, .tup [.own 5 (List.map encNote r26.1), vI r26.2])] (j_Cut_ok hr) (by kernel_rfl) (by kernel_rfl) (by kernel_rfl) <| OWk.sg 168 H [] [0, 3, 10, 17] 5 [(0, .d (.list 5 (List.map encNote p0))), (3, vI p3), (10, vI r26.2), (17, .own 5 (List.map encNote r26.1))] (by kernel_rfl) <| OWk.done (by kernel_rfl) <| thenS_n <| SW.seq <| SW.regionK <| OWk.sg 168 H [] [10, 17, 152, 153] 2 [(10, vI r26.2), (17, .own 5 (List.map encNote r26.1)), (152, .d (.list 5 (List.map encNote p0))), (153, vI p3)] (by kernel_rfl) ?_
                        obtain ⟨r27, hr, h⟩ := bind_inv h
                        refine OWk.cl 168 H (d := some 154) (ls := []) (gs := []) [] [10, 17, 154] [(10, vI r26.2), (17, .own 5 (List.map encNote r26.1)), (154, .tup [.own 5 (List.map encNote r27.1), vI r27.2])] (r_Cut_ok hr) (by kernel_rfl) (by kernel_rfl) (by kernel_rfl) <| OWk.sg 168 H [] [10, 12, 17, 18] 5 [(10, vI r26.2), (12, vI r27.2), (17, .own 5 (List.map encNote r26.1)), (18, .own 5 (List.map encNote r27.1))] (by kernel_rfl) <| OWk.done (by kernel_rfl) <| thenS_n <| SW.seq <| SW.regionK <| OWk.sg 168 H [] [17, 18, 160] 4 [(17, .own 5 (List.map encNote r26.1)), (18, .own 5 (List.map encNote r27.1)), (160, vB (r26.2 == r27.2))] (by kernel_rfl) ?_
                        refine OWk.case (r26.2 == r27.2) (fun b => (sp 168 [(17, .own 5 (List.map encNote r26.1)), (18, .own 5 (List.map encNote r27.1)), (160, vB b)] H)) (by kernel_rfl) (fun hc => ?_) (fun hc => ?_)
                        · replace h := bif_t hc h
                          refine OWk.sg 168 H [161, 162] [160, 161, 162] 2 [(160, vB true), (161, .own 5 (List.map encNote r26.1)), (162, .own 5 (List.map encNote r27.1))] (by kernel_rfl) ?_
                          obtain ⟨r28, hr, h⟩ := bind_inv h
                          refine OWk.cl 168 H (d := some 163) (ls := [(.slot 161), (.slot 162)]) (gs := []) [] [160, 163] [(160, vB true), (163, vB r28)] (r_SameNotes_ok hr) (by kernel_rfl) (by kernel_rfl) (by kernel_rfl) <| OWk.sg 168 H [161, 162] [165] 2 [(165, vB r28)] (by kernel_rfl) ?_
                          refine OWk.case r28 (fun b => (sp 168 [(165, vB b)] H)) (by kernel_rfl) (fun hc => ?_) (fun hc => ?_)
                          · replace h := bif_t hc h
                            obtain ⟨r29, hr, h⟩ := bind_inv h
                            refine OWk.cl 168 H (d := some 166) (ls := []) (gs := []) [] [165, 166] [(165, vB true), (166, vB r29)] (l_awake_ok hr) (by kernel_rfl) (by kernel_rfl) (by kernel_rfl) <| OWk.sg 168 H [161, 162] [8] 2 [(8, vB r29)] (by kernel_rfl) <| OWk.done (by kernel_rfl) <| thenS_n <| SW.ret ?_
                            cases h
                            exact EndQ.ret [] (by kernel_rfl) rfl
                          · replace h := bif_f hc h
                            refine OWk.sg 168 H [161, 162] [8] 3 [(8, vB false)] (by kernel_rfl) <| OWk.done (by kernel_rfl) <| thenS_n <| SW.ret ?_
                            cases h
                            exact EndQ.ret [] (by kernel_rfl) rfl
                        · replace h := bif_f hc h
                          refine OWk.sg 168 H [161, 162] [8] 8 [(8, vB false)] (by kernel_rfl) <| OWk.done (by kernel_rfl) <| thenS_n <| SW.ret ?_
                          cases h
                          exact EndQ.ret [] (by kernel_rfl) rfl
                  · refine SW.regionK <| OWk.sg 168 H [] [0, 2, 3, 15, 16, 119] 4 [(0, .d (.list 5 (List.map encNote p0))), (2, vS p2), (3, vI p3), (15, .own 1 (List.map D.str r19.1)), (16, .own 1 (List.map D.str r20.1)), (119, vB (r19.2 != r20.2))] (by kernel_rfl) ?_
                    refine OWk.case (r19.2 != r20.2) (fun b => (sp 168 [(0, .d (.list 5 (List.map encNote p0))), (2, vS p2), (3, vI p3), (15, .own 1 (List.map D.str r19.1)), (16, .own 1 (List.map D.str r20.1)), (119, vB b)] H)) (by kernel_rfl) (fun hc => ?_) (fun hc => ?_)
                    · replace h := bif_t hc h
                      refine OWk.sg 168 H [] [0, 2, 3, 124] 5 [(0, .d (.list 5 (List.map encNote p0))), (2, vS p2), (3, vI p3), (124, vB true)] (by kernel_rfl) <| OWk.done (by kernel_rfl) ?_
                      exact ⟨true, [], by kernel_rfl, h⟩
                    · replace h := bif_f hc h
                      refine OWk.sg 168 H [120, 121] [0, 2, 3, 119, 120, 121] 2 [(0, .d (.list 5 (List.map encNote p0))), (2, vS p2), (3, vI p3), (119, vB false), (120, .own 1 (List.map D.str r19.1)), (121, .own 1 (List.map D.str r20.1))] (by kernel_rfl) ?_
                      obtain ⟨r23, hr, h⟩ := bind_inv h
                      refine OWk.cl 168 H (d := some 122) (ls := [(.slot 120), (.slot 121)]) (gs := []) [] [0, 2, 3, 119, 122] [(0, .d (.list 5 (List.map encNote p0))), (2, vS p2), (3, vI p3), (119, vB false), (122, vB r23)] (r03_SameNames_ok hr) (by kernel_rfl) (by kernel_rfl) (by kernel_rfl) <| OWk.sg 168 H [120, 121] [0, 2, 3, 124] 2 [(0, .d (.list 5 (List.map encNote p0))), (2, vS p2), (3, vI p3), (124, vB (!r23))] (by kernel_rfl) <| OWk.done (by kernel_rfl) ?_
                      exact ⟨(!r23), [], by kernel_rfl, h⟩
            · refine SW.regionK <| OWk.sg 168 H [] [0, 1, 2, 3, 13, 14, 78] 4 [(0, .d (.list 5 (List.map encNote p0))), (1, vI p1), (2, vS p2), (3, vI p3), (13, .own 1 (List.map (D.int .i64) r12.1)), (14, .own 1 (List.map (D.int .i64) r13.1)), (78, vB (r12.2 != r13.2))] (by kernel_rfl) ?_
              refine OWk.case (r12.2 != r13.2) (fun b => (sp 168 [(0, .d (.list 5 (List.map encNote p0))), (1, vI p1), (2, vS p2), (3, vI p3), (13, .own 1 (List.map (D.int .i64) r12.1)), (14, .own 1 (List.map (D.int .i64) r13.1)), (78, vB b)] H)) (by kernel_rfl) (fun hc => ?_) (fun hc => ?_)
              · replace h := bif_t hc h
                refine OWk.sg 168 H [] [0, 1, 2, 3, 83] 5 [(0, .d (.list 5 (List.map encNote p0))), (1, vI p1), (2, vS p2), (3, vI p3), (83, vB true)] (by kernel_rfl) <| OWk.done (by kernel_rfl) ?_
                exact ⟨true, [], by kernel_rfl, h⟩
              · replace h := bif_f hc h
                refine OWk.sg 168 H [79, 80] [0, 1, 2, 3, 78, 79, 80] 2 [(0, .d (.list 5 (List.map encNote p0))), (1, vI p1), (2, vS p2), (3, vI p3), (78, vB false), (79, .own 1 (List.map (D.int .i64) r12.1)), (80, .own 1 (List.map (D.int .i64) r13.1))] (by kernel_rfl) ?_
                obtain ⟨r16, hr, h⟩ := bind_inv h
                refine OWk.cl 168 H (d := some 81) (ls := [(.slot 79), (.slot 80)]) (gs := []) [] [0, 1, 2, 3, 78, 81] [(0, .d (.list 5 (List.map encNote p0))), (1, vI p1), (2, vS p2), (3, vI p3), (78, vB false), (81, vB r16)] (r10_SameInts_ok hr) (by kernel_rfl) (by kernel_rfl) (by kernel_rfl) <| OWk.sg 168 H [79, 80] [0, 1, 2, 3, 83] 2 [(0, .d (.list 5 (List.map encNote p0))), (1, vI p1), (2, vS p2), (3, vI p3), (83, vB (!r16))] (by kernel_rfl) <| OWk.done (by kernel_rfl) ?_
                exact ⟨(!r16), [], by kernel_rfl, h⟩
        · refine SW.regionK <| OWk.sg 168 H [] [0, 1, 2, 3, 13, 14, 59] 4 [(0, .d (.list 5 (List.map encNote p0))), (1, vI p1), (2, vS p2), (3, vI p3), (13, .own 1 (List.map (D.int .i64) r7.1)), (14, .own 1 (List.map (D.int .i64) r8.1)), (59, vB (r7.2 != r8.2))] (by kernel_rfl) ?_
          refine OWk.case (r7.2 != r8.2) (fun b => (sp 168 [(0, .d (.list 5 (List.map encNote p0))), (1, vI p1), (2, vS p2), (3, vI p3), (13, .own 1 (List.map (D.int .i64) r7.1)), (14, .own 1 (List.map (D.int .i64) r8.1)), (59, vB b)] H)) (by kernel_rfl) (fun hc => ?_) (fun hc => ?_)
          · replace h := bif_t hc h
            refine OWk.sg 168 H [] [0, 1, 2, 3, 64] 5 [(0, .d (.list 5 (List.map encNote p0))), (1, vI p1), (2, vS p2), (3, vI p3), (64, vB true)] (by kernel_rfl) <| OWk.done (by kernel_rfl) ?_
            exact ⟨true, [], by kernel_rfl, h⟩
          · replace h := bif_f hc h
            refine OWk.sg 168 H [60, 61] [0, 1, 2, 3, 59, 60, 61] 2 [(0, .d (.list 5 (List.map encNote p0))), (1, vI p1), (2, vS p2), (3, vI p3), (59, vB false), (60, .own 1 (List.map (D.int .i64) r7.1)), (61, .own 1 (List.map (D.int .i64) r8.1))] (by kernel_rfl) ?_
            obtain ⟨r11, hr, h⟩ := bind_inv h
            refine OWk.cl 168 H (d := some 62) (ls := [(.slot 60), (.slot 61)]) (gs := []) [] [0, 1, 2, 3, 59, 62] [(0, .d (.list 5 (List.map encNote p0))), (1, vI p1), (2, vS p2), (3, vI p3), (59, vB false), (62, vB r11)] (r10_SameInts_ok hr) (by kernel_rfl) (by kernel_rfl) (by kernel_rfl) <| OWk.sg 168 H [60, 61] [0, 1, 2, 3, 64] 2 [(0, .d (.list 5 (List.map encNote p0))), (1, vI p1), (2, vS p2), (3, vI p3), (64, vB (!r11))] (by kernel_rfl) <| OWk.done (by kernel_rfl) ?_
            exact ⟨(!r11), [], by kernel_rfl, h⟩
  · refine SW.regionK <| OWk.sg 168 H [] [0, 1, 2, 3, 19] 1 [(0, .d (.list 5 (List.map encNote p0))), (1, vI p1), (2, vS p2), (3, vI p3), (19, .d (.list 5 (List.map encNote p0)))] (by kernel_rfl) ?_
    obtain ⟨r3, hr, h⟩ := bind_inv h
    refine OWk.cl 168 H (d := some 20) (ls := []) (gs := []) [] [0, 1, 2, 3, 20] [(0, .d (.list 5 (List.map encNote p0))), (1, vI p1), (2, vS p2), (3, vI p3), (20, vB r3)] (l_Notes_ok hr) (by kernel_rfl) (by kernel_rfl) (by kernel_rfl) <| OWk.sg 168 H [] [0, 1, 2, 3, 22] 2 [(0, .d (.list 5 (List.map encNote p0))), (1, vI p1), (2, vS p2), (3, vI p3), (22, vB (!r3))] (by kernel_rfl) ?_
    refine OWk.case (!r3) (fun b => (sp 168 [(0, .d (.list 5 (List.map encNote p0))), (1, vI p1), (2, vS p2), (3, vI p3), (22, vB b)] H)) (by kernel_rfl) (fun hc => ?_) (fun hc => ?_)
    · replace h := bif_t hc h
      refine OWk.sg 168 H [] [0, 1, 2, 3, 26] 4 [(0, .d (.list 5 (List.map encNote p0))), (1, vI p1), (2, vS p2), (3, vI p3), (26, vB true)] (by kernel_rfl) <| OWk.done (by kernel_rfl) ?_
      exact ⟨true, [], by kernel_rfl, h⟩
    · replace h := bif_f hc h
      refine OWk.sg 168 H [] [0, 1, 2, 3, 22, 23] 1 [(0, .d (.list 5 (List.map encNote p0))), (1, vI p1), (2, vS p2), (3, vI p3), (22, vB false), (23, vS p2)] (by kernel_rfl) <| OWk.sg 168 H [] [0, 1, 2, 3, 22, 24] 1 [(0, .d (.list 5 (List.map encNote p0))), (1, vI p1), (2, vS p2), (3, vI p3), (22, vB false), (24, vI (p2.length : Int))] (by kernel_rfl) <| OWk.sg 168 H [] [0, 1, 2, 3, 26] 2 [(0, .d (.list 5 (List.map encNote p0))), (1, vI p1), (2, vS p2), (3, vI p3), (26, vB (decide ((p2.length : Int) > 100)))] (by kernel_rfl) <| OWk.done (by kernel_rfl) ?_
      exact ⟨(decide ((p2.length : Int) > 100)), [], by kernel_rfl, h⟩

end Go.Sh
