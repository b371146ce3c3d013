/- Printed by a program: functions of the program as plain functions, and that the code computes them. -/
import Derived.Test.YtjkhgfoecplbgaaGreatF1
set_option linter.all false
set_option autoImplicit true
set_option relaxedAutoImplicit true
open Go Go.Proofs
namespace Go.Sh
set_option linter.unusedVariables false
set_option linter.unusedSimpArgs false
set_option maxRecDepth 100000
def j_Open_1 (fuel : Nat) (p0 : Int) (p1 : (List Note)) : Option (Bool) :=
  (j_since fuel p1 p0).bind fun r1 =>
  some r1.2
theorem j_Open_1_ok {fuel : Nat} {p0 : Int} {p1 : (List Note)} {r : Bool} (h : j_Open_1 fuel p0 p1 = some r) : PC Tryz.prog 29 [vI p0, .d (.dptr [.list 5 (List.map encNote p1)])] (vB r) := by
  refine PC.of_SW Tryz.func29 rfl fun H => ?_
  unfold j_Open_1 at h
  refine SW.kp 13 H [0, 1] [(0, vI p0), (1, .d (.dptr [.list 5 (List.map encNote p1)]))] (by kernel_rfl) <| SW.seq <| SW.regionK <| OWk.sg 13 H [] [0, 1] 1 [(0, vI p0), (1, .d (.dptr [.list 5 (List.map encNote p1)]))] (by kernel_rfl) <| OWk.done (by kernel_rfl) <| thenS_n <| SW.seq <| SW.regionK <| OWk.sg 13 H [] [7, 8] 2 [(7, .d (.list 5 (List.map encNote p1))), (8, vI p0)] (by kernel_rfl) ?_
  obtain ⟨r1, hr, h⟩ := bind_inv h
  refine OWk.cl 13 H (d := some 9) (ls := []) (gs := []) [] [9] [(9, .tup [vI r1.1, vB r1.2])] (j_since_ok hr) (by kernel_rfl) (by kernel_rfl) (by kernel_rfl) <| OWk.sg 13 H [] [5] 5 [(5, vB r1.2)] (by kernel_rfl) <| OWk.done (by kernel_rfl) <| thenS_n <| SW.seq <| SW.regionK <| OWk.sg 13 H [] [3] 2 [(3, vB r1.2)] (by kernel_rfl) <| OWk.done (by kernel_rfl) <| thenS_n <| SW.ret ?_
  cases h
  exact EndQ.ret [] (by kernel_rfl) rfl
theorem sortI_ok {fuel : Nat} {p0 r : (List Int)} (h : sortI fuel p0 = some r) : IC Tryz.prog 47 1 (List.map (D.int .i64) p0) (List.map (D.int .i64) r) := by
  unfold sortI at h
  split at h
  · rename_i hz
    cases h
    exact IC.of_sort (Value.int .i64) (D.int .i64) (fun _ => rfl) (fun g w v x h => by cases h; rfl) (fun _ _ _ => .int) (fun _ => rfl) _ (fun l => List.length_mergeSort l) (fun blk off cap zs w hH hb hz => Tryz.slices_Sort_int blk off cap zs w hH hb hz) (fun p cap w => Tryz.slices_Sort_int_none p cap w) hz
  · cases h
def j_units__j_Open_1_l1 (fuel : Nat) (p0 : (List Note)) (c1_0 : (List Note)) (q1 : (Hp × Nat)) (y2 : Int × Hp) : Option ((Int × Hp) ⊕ (Hp)) :=
  bif (decide (y2.1 < (p0.length : Int))) then
    (idx p0 y2.1).bind fun x3 =>
    bif (x3.Kind != 6) then
      (j_Open_1 fuel x3.Unit c1_0).bind fun r4 =>
      bif r4 then
        (hMput (kI .i64) cB y2.2 (some q1.2) x3.Unit true).bind fun H5 =>
        some (.inl ((IntKind.wrap .i64 (y2.1 + 1)), H5))
      else
        some (.inl ((IntKind.wrap .i64 (y2.1 + 1)), y2.2))
    else
      some (.inl ((IntKind.wrap .i64 (y2.1 + 1)), y2.2))
  else
    some (.inr y2.2)
def j_units__j_Open_1_l2 (fuel : Nat) (q8 : (Rng Int Bool)) (y9 : (List Int) × Hp) (e10 : (Int × Bool)) : Option (((List Int) × Hp) ⊕ (Empty)) :=
  chk (decide ((y9.1 ++ [e10.1]).length ≤ room)) <|
  chk (holes q8 y9.2) <|
  some (.inl ((y9.1 ++ [e10.1]), y9.2))
noncomputable def j_units__j_Open_1 (fuel : Nat) (p0 : (List Note)) (c1_0 : (List Note)) : Option ((List Int)) :=
  (hNew [] (.map [])).bind fun q1 =>
  (iter (j_units__j_Open_1_l1 fuel p0 c1_0 q1) fuel (0, q1.1)).bind fun v7 =>
  (hRange (kI .i64) cB v7 (some q1.2)).bind fun q8 =>
  allP q8.es fun p => (foldI (j_units__j_Open_1_l2 fuel q8) (([] : List Int), q8.H) p).bind (Sum.elim (fun y11 =>
    (hBack (kI .i64) cB q8 y11.2).bind fun H12 =>
    (sortI fuel y11.1).bind fun r13 =>
    some r13)
    Empty.elim)
theorem j_units__j_Open_1_ok {fuel : Nat} {p0 : (List Note)} {c1_0 : (List Note)} {r : (List Int)} (h : j_units__j_Open_1 fuel p0 c1_0 = some r) : PC Tryz.prog 28 [.d (.list 5 (List.map encNote p0)), .d (.fn (.func 29) [] [.dptr [.list 5 (List.map encNote c1_0)]])] (.own 1 (List.map (D.int .i64) r)) := by
  refine PC.of_localSW Tryz.func28 rfl (by simp [noPtrSV, noPtr, noPtrs, vI, vB, vS, noPtrs_map (f := encNote) encNote_np, noPtrs_map (f := encNote) encNote_np]) (by simp [noPtrSV, noPtr, noPtrs, vI, vB, vS, noPtrs_map (f := (D.int .i64)) (fun _ => rfl)]) ?_
  unfold j_units__j_Open_1 at h
  refine SW.kp 43 [] [0, 1] [(0, .d (.list 5 (List.map encNote p0))), (1, .d (.fn (.func 29) [] [.dptr [.list 5 (List.map encNote c1_0)]]))] (by kernel_rfl) <| SW.seq <| SW.regionK <| OWk.sg 43 [] [] [0, 1] 1 [(0, .d (.list 5 (List.map encNote p0))), (1, .d (.fn (.func 29) [] [.dptr [.list 5 (List.map encNote c1_0)]]))] (by kernel_rfl) <| OWk.done (by kernel_rfl) <| thenS_n <| SW.seq <| SW.regionK ?_
  obtain ⟨q1, hq, h⟩ := bind_inv h
  refine OWk.hnew 43 q1.1 (d := some 10) (b := true) [] [0, 1, 10] [(0, .d (.list 5 (List.map encNote p0))), (1, .d (.fn (.func 29) [] [.dptr [.list 5 (List.map encNote c1_0)]])), (10, .d (.map q1.2))] hq (by kernel_rfl) rfl (by kernel_rfl) <| OWk.sg 43 q1.1 [] [0, 1, 5] 1 [(0, .d (.list 5 (List.map encNote p0))), (1, .d (.fn (.func 29) [] [.dptr [.list 5 (List.map encNote c1_0)]])), (5, .d (.map q1.2))] (by kernel_rfl) <| OWk.done (by kernel_rfl) <| thenS_n <| SW.seq <| SW.seq <| SW.regionK <| OWk.sg 43 q1.1 [] [1, 5, 11] 1 [(1, .d (.fn (.func 29) [] [.dptr [.list 5 (List.map encNote c1_0)]])), (5, .d (.map q1.2)), (11, .d (.list 5 (List.map encNote p0)))] (by kernel_rfl) <| OWk.on 43 q1.1 (d := some 12) [1, 5, 11, 12] [(1, .d (.fn (.func 29) [] [.dptr [.list 5 (List.map encNote c1_0)]])), (5, .d (.map q1.2)), (11, .d (.list 5 (List.map encNote p0))), (12, vI (p0.length : Int))] (BAt.len (enc := encNote) (xs := p0) (by kernel_rfl)) (by kernel_rfl) <| OWk.sg 43 q1.1 [] [1, 5, 11, 12, 13] 1 [(1, .d (.fn (.func 29) [] [.dptr [.list 5 (List.map encNote c1_0)]])), (5, .d (.map q1.2)), (11, .d (.list 5 (List.map encNote p0))), (12, vI (p0.length : Int)), (13, vI 0)] (by kernel_rfl) <| OWk.done (by kernel_rfl) <| thenS_n <| SW.block ?_
  obtain ⟨v7, hit, h⟩ := bind_inv h
  refine SW.itH 43 [1, 5, 11, 12, 13] (fun y2 => [(1, .d (.fn (.func 29) [] [.dptr [.list 5 (List.map encNote c1_0)]])), (5, .d (.map q1.2)), (11, .d (.list 5 (List.map encNote p0))), (12, vI (p0.length : Int)), (13, vI y2.1)]) (fun y2 => y2.2) (fun v7 e s => (e = .exit 0 ∧ s = (sp 43 [(5, .d (.map q1.2))] v7))) hit (by kernel_rfl) (fun y2 o h => ?_) ?_
  · unfold j_units__j_Open_1_l1 at h
    refine SW.seq <| SW.regionK <| OWk.sg 43 y2.2 [] [1, 5, 11, 12, 13, 14] 1 [(1, .d (.fn (.func 29) [] [.dptr [.list 5 (List.map encNote c1_0)]])), (5, .d (.map q1.2)), (11, .d (.list 5 (List.map encNote p0))), (12, vI (p0.length : Int)), (13, vI y2.1), (14, vB (decide (y2.1 < (p0.length : Int))))] (by kernel_rfl) <| OWk.done (by kernel_rfl) <| thenS_n <| SW.seq ?_
    refine SW.condB (b := (decide (y2.1 < (p0.length : Int)))) (by kernel_rfl) (fun hc => ?_) (fun hc => ?_)
    · replace h := bif_t hc h
      refine SW.skip <| thenS_n <| SW.seq <| SW.block <| SW.seq <| SW.regionK ?_
      obtain ⟨x3, hx, h⟩ := bind_inv h
      refine OWk.on 43 y2.2 (d := some 15) (s := lendP none (Go.Sh.D.cells (encNote x3))) [1, 5, 11, 12, 13, 15] [(1, .d (.fn (.func 29) [] [.dptr [.list 5 (List.map encNote c1_0)]])), (5, .d (.map q1.2)), (11, .d (.list 5 (List.map encNote p0))), (12, vI (p0.length : Int)), (13, vI y2.1), (15, .d (.dptr [.int .i64 x3.Kind, .int .i64 x3.Unit, .str x3.Key, .bool x3.Has, .str x3.Text]))] (BAt.index (n := 5) hx (by kernel_rfl)) (by kernel_rfl) <| OWk.sg 43 y2.2 [] [1, 5, 7, 11, 12, 13] 3 [(1, .d (.fn (.func 29) [] [.dptr [.list 5 (List.map encNote c1_0)]])), (5, .d (.map q1.2)), (7, .box [vI x3.Kind, vI x3.Unit, vS x3.Key, vB x3.Has, vS x3.Text]), (11, .d (.list 5 (List.map encNote p0))), (12, vI (p0.length : Int)), (13, vI y2.1)] (by kernel_rfl) <| OWk.done (by kernel_rfl) <| thenS_n <| SW.seq <| SW.regionK <| OWk.sg 43 y2.2 [] [1, 5, 7, 11, 12, 13, 20] 4 [(1, .d (.fn (.func 29) [] [.dptr [.list 5 (List.map encNote c1_0)]])), (5, .d (.map q1.2)), (7, .box [vI x3.Kind, vI x3.Unit, vS x3.Key, vB x3.Has, vS x3.Text]), (11, .d (.list 5 (List.map encNote p0))), (12, vI (p0.length : Int)), (13, vI y2.1), (20, vB (x3.Kind != 6))] (by kernel_rfl) ?_
      refine OWk.case (x3.Kind != 6) (fun b => (sp 43 [(1, .d (.fn (.func 29) [] [.dptr [.list 5 (List.map encNote c1_0)]])), (5, .d (.map q1.2)), (7, .box [vI x3.Kind, vI x3.Unit, vS x3.Key, vB x3.Has, vS x3.Text]), (11, .d (.list 5 (List.map encNote p0))), (12, vI (p0.length : Int)), (13, vI y2.1), (20, vB b)] y2.2)) (by kernel_rfl) (fun hc => ?_) (fun hc => ?_)
      · replace h := bif_t hc h
        refine OWk.sg 43 y2.2 [] [1, 5, 7, 11, 12, 13, 20, 21, 23] 3 [(1, .d (.fn (.func 29) [] [.dptr [.list 5 (List.map encNote c1_0)]])), (5, .d (.map q1.2)), (7, .box [vI x3.Kind, vI x3.Unit, vS x3.Key, vB x3.Has, vS x3.Text]), (11, .d (.list 5 (List.map encNote p0))), (12, vI (p0.length : Int)), (13, vI y2.1), (20, vB true), (21, .d (.fn (.func 29) [] [.dptr [.list 5 (List.map encNote c1_0)]])), (23, vI x3.Unit)] (by kernel_rfl) ?_
        obtain ⟨r4, hr, h⟩ := bind_inv h
        refine OWk.cl 43 y2.2 (d := some 24) (ls := []) (gs := []) [] [1, 5, 7, 11, 12, 13, 20, 24] [(1, .d (.fn (.func 29) [] [.dptr [.list 5 (List.map encNote c1_0)]])), (5, .d (.map q1.2)), (7, .box [vI x3.Kind, vI x3.Unit, vS x3.Key, vB x3.Has, vS x3.Text]), (11, .d (.list 5 (List.map encNote p0))), (12, vI (p0.length : Int)), (13, vI y2.1), (20, vB true), (24, vB r4)] (j_Open_1_ok hr) (by kernel_rfl) (by kernel_rfl) (by kernel_rfl) <| OWk.sg 43 y2.2 [] [1, 5, 7, 11, 12, 13, 25] 1 [(1, .d (.fn (.func 29) [] [.dptr [.list 5 (List.map encNote c1_0)]])), (5, .d (.map q1.2)), (7, .box [vI x3.Kind, vI x3.Unit, vS x3.Key, vB x3.Has, vS x3.Text]), (11, .d (.list 5 (List.map encNote p0))), (12, vI (p0.length : Int)), (13, vI y2.1), (25, vB r4)] (by kernel_rfl) <| OWk.done (by kernel_rfl) <| thenS_n ?_
        refine SW.condB (b := r4) (by kernel_rfl) (fun hc => ?_) (fun hc => ?_)
        · replace h := bif_t hc h
          refine SW.regionK <| OWk.sg 43 y2.2 [] [1, 5, 11, 12, 13, 26, 28] 3 [(1, .d (.fn (.func 29) [] [.dptr [.list 5 (List.map encNote c1_0)]])), (5, .d (.map q1.2)), (11, .d (.list 5 (List.map encNote p0))), (12, vI (p0.length : Int)), (13, vI y2.1), (26, .d (.map q1.2)), (28, vI x3.Unit)] (by kernel_rfl) ?_
          obtain ⟨H5, hx, h⟩ := bind_inv h
          refine OWk.mput 43 H5 (kc := (kI .i64)) (v := cB) (mm := (some q1.2)) (key := x3.Unit) (y := true) [1, 5, 11, 12, 13] [(1, .d (.fn (.func 29) [] [.dptr [.list 5 (List.map encNote c1_0)]])), (5, .d (.map q1.2)), (11, .d (.list 5 (List.map encNote p0))), (12, vI (p0.length : Int)), (13, vI y2.1)] hx (by kernel_rfl) (by kernel_rfl) <| OWk.done (by kernel_rfl) <| blockS_n <| thenS_n <| SW.regionK <| OWk.sg 43 H5 [] [1, 5, 11, 12, 13] 2 [(1, .d (.fn (.func 29) [] [.dptr [.list 5 (List.map encNote c1_0)]])), (5, .d (.map q1.2)), (11, .d (.list 5 (List.map encNote p0))), (12, vI (p0.length : Int)), (13, vI (IntKind.wrap .i64 (y2.1 + 1)))] (by kernel_rfl) <| OWk.done (by kernel_rfl) ?_
          cases h
          exact ⟨((IntKind.wrap .i64 (y2.1 + 1)), H5), rfl, by kernel_rfl⟩
        · replace h := bif_f hc h
          refine SW.skip <| blockS_n <| thenS_n <| SW.regionK <| OWk.sg 43 y2.2 [] [1, 5, 11, 12, 13] 2 [(1, .d (.fn (.func 29) [] [.dptr [.list 5 (List.map encNote c1_0)]])), (5, .d (.map q1.2)), (11, .d (.list 5 (List.map encNote p0))), (12, vI (p0.length : Int)), (13, vI (IntKind.wrap .i64 (y2.1 + 1)))] (by kernel_rfl) <| OWk.done (by kernel_rfl) ?_
          cases h
          exact ⟨((IntKind.wrap .i64 (y2.1 + 1)), y2.2), rfl, by kernel_rfl⟩
      · replace h := bif_f hc h
        refine OWk.sg 43 y2.2 [] [1, 5, 7, 11, 12, 13, 25] 5 [(1, .d (.fn (.func 29) [] [.dptr [.list 5 (List.map encNote c1_0)]])), (5, .d (.map q1.2)), (7, .box [vI x3.Kind, vI x3.Unit, vS x3.Key, vB x3.Has, vS x3.Text]), (11, .d (.list 5 (List.map encNote p0))), (12, vI (p0.length : Int)), (13, vI y2.1), (25, vB false)] (by kernel_rfl) <| OWk.done (by kernel_rfl) <| thenS_n <| SW.condF (by kernel_rfl) <| SW.skip <| blockS_n <| thenS_n <| SW.regionK <| OWk.sg 43 y2.2 [] [1, 5, 11, 12, 13] 2 [(1, .d (.fn (.func 29) [] [.dptr [.list 5 (List.map encNote c1_0)]])), (5, .d (.map q1.2)), (11, .d (.list 5 (List.map encNote p0))), (12, vI (p0.length : Int)), (13, vI (IntKind.wrap .i64 (y2.1 + 1)))] (by kernel_rfl) <| OWk.done (by kernel_rfl) ?_
        cases h
        exact ⟨((IntKind.wrap .i64 (y2.1 + 1)), y2.2), rfl, by kernel_rfl⟩
    · replace h := bif_f hc h
      refine SW.kp 43 y2.2 [5] [(5, .d (.map q1.2))] (by kernel_rfl) <| SW.exit <| thenS_e ?_
      cases h
      refine thenS_e ?_
      exact ⟨_, rfl, ⟨rfl, rfl⟩⟩
  · rintro _ _ ⟨rfl, rfl⟩
    refine blockS_hit <| thenS_n <| SW.seq <| SW.regionK <| OWk.sg 43 v7 [] [5, 8] 1 [(5, .d (.map q1.2)), (8, .own 1 (List.map (D.int .i64) ([] : List Int)))] (by kernel_rfl) <| OWk.done (by kernel_rfl) <| thenS_n <| SW.seq <| SW.seq <| SW.regionK <| OWk.sg 43 v7 [] [8, 30] 1 [(8, .own 1 (List.map (D.int .i64) ([] : List Int))), (30, .d (.map q1.2))] (by kernel_rfl) ?_
    obtain ⟨q8, hrq, h⟩ := bind_inv h
    refine OWk.mrange 43 (mm := (some q1.2)) (d := some 31) hrq (by kernel_rfl) [8, 31] [(8, .own 1 (List.map (D.int .i64) ([] : List Int))), (31, .d (.ptr q8.it 0))] (fun H1 => by kernel_rfl) (fun kbq8 clq8 msq8 => ?_)
    refine OWk.done (by kernel_rfl) <| thenS_n <| SW.block ?_
    have hit := fun p (hp : p.Perm q8.es) => bind_inv (allP_inv h p hp)
    refine SW.rng 43 (B := 2) (B2 := 3) (q := q8) (kc := (kI .i64)) (v := cB) (kb := kbq8) (clock := clq8) (ms := msq8) [8, 31] (fun (y9 : (List Int) × Hp) => [(8, .own 1 (List.map (D.int .i64) y9.1)), (31, .d (.ptr q8.it 0))]) (fun (y9 : (List Int) × Hp) => y9.2) (j_units__j_Open_1_l2 fuel q8) (([] : List Int), q8.H) _ (fun b e s => False) hrq hit (by kernel_rfl) rfl rfl rfl rfl rfl rfl rfl rfl rfl rfl rfl (fun _ => by kernel_rfl) (fun _ => by kernel_rfl) (fun y9 e10 o hho h => ?_) (fun y11 hC => ?_) ?_
    · unfold j_units__j_Open_1_l2 at h
      refine OWk.sg 43 y9.2 [] [8, 9, 31] 2 [(8, .own 1 (List.map (D.int .i64) y9.1)), (9, vI e10.1), (31, .d (.ptr q8.it 0))] (by kernel_rfl) <| OWk.done (by kernel_rfl) <| thenS_n <| SW.regionK <| OWk.sg 43 y9.2 [36] [31, 36, 38] 3 [(31, .d (.ptr q8.it 0)), (36, .own 1 (List.map (D.int .i64) y9.1)), (38, .own 1 (List.map (D.int .i64) [e10.1]))] (by kernel_rfl) ?_
      obtain ⟨hk, h⟩ := chk_inv h
      refine OWk.app 43 y9.2 (s := 36) (d := 39) (w := 1) [31, 39] (zs := List.map (D.int .i64) (y9.1 ++ [e10.1])) [(31, .d (.ptr q8.it 0)), (39, .own 1 (List.map (D.int .i64) (y9.1 ++ [e10.1])))] (ys := (List.map (D.int .i64) [e10.1])) (by kernel_rfl) (map_append') (room_map hk) (by kernel_rfl) <| OWk.sg 43 y9.2 [36] [8, 31] 1 [(8, .own 1 (List.map (D.int .i64) (y9.1 ++ [e10.1]))), (31, .d (.ptr q8.it 0))] (by kernel_rfl) <| OWk.done (by kernel_rfl) <| blockS_n ?_
      obtain ⟨hho, h⟩ := chk_inv h
      cases h
      exact ⟨((y9.1 ++ [e10.1]), y9.2), rfl, hho, by kernel_rfl⟩
    · replace hC := sum_l hC
      obtain ⟨H12, hb, h⟩ := bind_inv hC
      refine ⟨H12, hb, ?_⟩
      refine blockS_hit <| thenS_n <| SW.seq <| SW.regionK <| OWk.on 43 H12 (d := some 40) (s := .als 8) [8, 40] [(8, .own 1 (List.map (D.int .i64) y11.1)), (40, .als 8)] (BAt.als (s := 8) (by kernel_rfl)) (by kernel_rfl) ?_
      obtain ⟨r13, hr, h⟩ := bind_inv h
      refine OWk.ic (s := 8) (p := none) (d := some 41) 43 H12 [8] [(8, .own 1 (List.map (D.int .i64) r13))] (sortI_ok hr) (by kernel_rfl) (by kernel_rfl) <| OWk.done (by kernel_rfl) <| thenS_n <| SW.seq <| SW.regionK <| OWk.sg 43 H12 [42] [4] 2 [(4, .own 1 (List.map (D.int .i64) r13))] (by kernel_rfl) <| OWk.done (by kernel_rfl) <| thenS_n <| SW.ret ?_
      cases h
      exact EndL.ret [] (by kernel_rfl)
    · exact fun b => b.elim
noncomputable def j_Open (fuel : Nat) (p0 : (List Note)) : Option ((List Int) × Int) :=
  (j_right fuel p0).bind fun r1 =>
  bif (r1 != 0) then
    some (([] : List Int), r1)
  else
    (j_units__j_Open_1 fuel p0 p0).bind fun r2 =>
    some (r2, 0)
theorem j_Open_ok {fuel : Nat} {p0 : (List Note)} {r : (List Int) × Int} (h : j_Open fuel p0 = some r) : PC Tryz.prog 8 [.d (.list 5 (List.map encNote p0))] (.tup [.own 1 (List.map (D.int .i64) r.1), vI r.2]) := by
  refine PC.of_SW Tryz.func8 rfl fun H => ?_
  unfold j_Open at h
  refine SW.kp 13 H [0] [(0, .d (.list 5 (List.map encNote p0)))] (by kernel_rfl) <| SW.seq <| SW.regionK <| OWk.bxf 13 H (d := 1) (ds := [.list 5 (List.map encNote p0)]) [1] [(1, .d (.dptr [.list 5 (List.map encNote p0)]))] (by kernel_rfl) (by kernel_rfl) <| OWk.sg 13 H [] [1] 2 [(1, .d (.dptr [.list 5 (List.map encNote p0)]))] (by kernel_rfl) <| OWk.done (by kernel_rfl) <| thenS_n <| SW.seq <| SW.seq <| SW.regionK <| OWk.sg 13 H [] [1, 5] 1 [(1, .d (.dptr [.list 5 (List.map encNote p0)])), (5, .d (.list 5 (List.map encNote p0)))] (by kernel_rfl) ?_
  obtain ⟨r1, hr, h⟩ := bind_inv h
  refine OWk.cl 13 H (d := some 6) (ls := []) (gs := []) [] [1, 6] [(1, .d (.dptr [.list 5 (List.map encNote p0)])), (6, vI r1)] (j_right_ok hr) (by kernel_rfl) (by kernel_rfl) (by kernel_rfl) <| OWk.sg 13 H [] [1, 4] 1 [(1, .d (.dptr [.list 5 (List.map encNote p0)])), (4, vI r1)] (by kernel_rfl) <| OWk.done (by kernel_rfl) <| thenS_n <| SW.seq <| SW.regionK <| OWk.sg 13 H [] [1, 4, 8] 2 [(1, .d (.dptr [.list 5 (List.map encNote p0)])), (4, vI r1), (8, vB (r1 != 0))] (by kernel_rfl) <| OWk.done (by kernel_rfl) <| thenS_n ?_
  refine SW.condB (b := (r1 != 0)) (by kernel_rfl) (fun hc => ?_) (fun hc => ?_)
  · replace h := bif_t hc h
    refine SW.seq <| SW.regionK <| OWk.sg 13 H [] [2, 3] 3 [(2, .own 1 (List.map (D.int .i64) ([] : List Int))), (3, vI r1)] (by kernel_rfl) <| OWk.done (by kernel_rfl) <| thenS_n <| SW.ret <| thenS_r ?_
    cases h
    exact EndQ.ret [] (by kernel_rfl) rfl
  · replace h := bif_f hc h
    refine SW.skip <| thenS_n <| SW.seq <| SW.regionK <| OWk.sg 13 H [] [10, 11] 2 [(10, .d (.list 5 (List.map encNote p0))), (11, .d (.fn (.func 29) [] [.dptr [.list 5 (List.map encNote p0)]]))] (by kernel_rfl) ?_
    obtain ⟨r2, hr, h⟩ := bind_inv h
    refine OWk.cl 13 H (d := some 12) (ls := []) (gs := []) [] [12] [(12, .own 1 (List.map (D.int .i64) r2))] (j_units__j_Open_1_ok hr) (by kernel_rfl) (by kernel_rfl) (by kernel_rfl) <| OWk.sg 13 H [] [2, 3] 2 [(2, .own 1 (List.map (D.int .i64) r2)), (3, vI 0)] (by kernel_rfl) <| OWk.done (by kernel_rfl) <| thenS_n <| SW.ret ?_
    cases h
    exact EndQ.ret [] (by kernel_rfl) rfl
def r_right (fuel : Nat) (p0 : (List Note)) : Option (Int) :=
  (r_notes fuel p0).bind fun r1 =>
  bif (!r1) then
    some 1
  else
    (r_Wrong fuel p0).bind fun r2 =>
    bif (r2.2 != 0) then
      some 9
    else
      some 0
theorem r_right_ok {fuel : Nat} {p0 : (List Note)} {r : Int} (h : r_right fuel p0 = some r) : PC Tryz.prog 31 [.d (.list 5 (List.map encNote p0))] (vI r) := by
  refine PC.of_SW Tryz.func31 rfl fun H => ?_
  unfold r_right at h
  refine SW.kp 15 H [0] [(0, .d (.list 5 (List.map encNote p0)))] (by kernel_rfl) <| SW.seq <| SW.regionK <| OWk.sg 15 H [] [0] 1 [(0, .d (.list 5 (List.map encNote p0)))] (by kernel_rfl) <| OWk.done (by kernel_rfl) <| thenS_n <| SW.seq <| SW.seq <| SW.regionK <| OWk.sg 15 H [] [0, 5] 1 [(0, .d (.list 5 (List.map encNote p0))), (5, .d (.list 5 (List.map encNote p0)))] (by kernel_rfl) ?_
  obtain ⟨r1, hr, h⟩ := bind_inv h
  refine OWk.cl 15 H (d := some 6) (ls := []) (gs := []) [] [0, 6] [(0, .d (.list 5 (List.map encNote p0))), (6, vB r1)] (r_notes_ok hr) (by kernel_rfl) (by kernel_rfl) (by kernel_rfl) <| OWk.sg 15 H [] [0, 7] 1 [(0, .d (.list 5 (List.map encNote p0))), (7, vB (!r1))] (by kernel_rfl) <| OWk.done (by kernel_rfl) <| thenS_n ?_
  refine SW.condB (b := (!r1)) (by kernel_rfl) (fun hc => ?_) (fun hc => ?_)
  · replace h := bif_t hc h
    refine SW.seq <| SW.regionK <| OWk.sg 15 H [] [2] 1 [(2, vI 1)] (by kernel_rfl) <| OWk.done (by kernel_rfl) <| thenS_n <| SW.ret <| thenS_r ?_
    cases h
    exact EndQ.ret [] (by kernel_rfl) rfl
  · replace h := bif_f hc h
    refine SW.skip <| thenS_n <| SW.seq <| SW.seq <| SW.regionK <| OWk.sg 15 H [] [9] 1 [(9, .d (.list 5 (List.map encNote p0)))] (by kernel_rfl) ?_
    obtain ⟨r2, hr, h⟩ := bind_inv h
    refine OWk.cl 15 H (d := some 10) (ls := []) (gs := []) [] [10] [(10, .tup [vI r2.1, vI r2.2])] (r_Wrong_ok hr) (by kernel_rfl) (by kernel_rfl) (by kernel_rfl) <| OWk.sg 15 H [] [4] 5 [(4, vI r2.2)] (by kernel_rfl) <| OWk.done (by kernel_rfl) <| thenS_n <| SW.seq <| SW.regionK <| OWk.sg 15 H [] [14] 2 [(14, vB (r2.2 != 0))] (by kernel_rfl) <| OWk.done (by kernel_rfl) <| thenS_n ?_
    refine SW.condB (b := (r2.2 != 0)) (by kernel_rfl) (fun hc => ?_) (fun hc => ?_)
    · replace h := bif_t hc h
      refine SW.seq <| SW.regionK <| OWk.sg 15 H [] [2] 1 [(2, vI 9)] (by kernel_rfl) <| OWk.done (by kernel_rfl) <| thenS_n <| SW.ret <| thenS_r ?_
      cases h
      exact EndQ.ret [] (by kernel_rfl) rfl
    · replace h := bif_f hc h
      refine SW.skip <| thenS_n <| SW.seq <| SW.regionK <| OWk.sg 15 H [] [2] 1 [(2, vI 0)] (by kernel_rfl) <| OWk.done (by kernel_rfl) <| thenS_n <| SW.ret ?_
      cases h
      exact EndQ.ret [] (by kernel_rfl) rfl
def r_Open_l1 (fuel : Nat) (p0 : (List Note)) (y2 : (List Int) × Int) : Option (((List Int) × Int) ⊕ ((List Int))) :=
  bif (decide (y2.2 ≤ 1000)) then
    (r_since fuel p0 (p0.length : Int) y2.2).bind fun r3 =>
    bif (decide (r3 ≥ 0)) then
      chk (decide ((y2.1 ++ [y2.2]).length ≤ room)) <|
      some (.inl ((y2.1 ++ [y2.2]), (IntKind.wrap .i64 (y2.2 + 1))))
    else
      some (.inl (y2.1, (IntKind.wrap .i64 (y2.2 + 1))))
  else
    some (.inr y2.1)
def r_Open (fuel : Nat) (p0 : (List Note)) : Option ((List Int) × Int) :=
  (r_right fuel p0).bind fun r1 =>
  bif (r1 != 0) then
    some (([] : List Int), r1)
  else
    (iter (r_Open_l1 fuel p0) fuel (([] : List Int), 1)).bind fun v5 =>
    some (v5, 0)
theorem r_Open_ok {fuel : Nat} {p0 : (List Note)} {r : (List Int) × Int} (h : r_Open fuel p0 = some r) : PC Tryz.prog 9 [.d (.list 5 (List.map encNote p0))] (.tup [.own 1 (List.map (D.int .i64) r.1), vI r.2]) := by
  refine PC.of_SW Tryz.func9 rfl fun H => ?_
  unfold r_Open at h
  refine SW.kp 27 H [0] [(0, .d (.list 5 (List.map encNote p0)))] (by kernel_rfl) <| SW.seq <| SW.regionK <| OWk.sg 27 H [] [0] 2 [(0, .d (.list 5 (List.map encNote p0)))] (by kernel_rfl) <| OWk.done (by kernel_rfl) <| thenS_n <| SW.seq <| SW.seq <| SW.regionK <| OWk.sg 27 H [] [0, 7] 1 [(0, .d (.list 5 (List.map encNote p0))), (7, .d (.list 5 (List.map encNote p0)))] (by kernel_rfl) ?_
  obtain ⟨r1, hr, h⟩ := bind_inv h
  refine OWk.cl 27 H (d := some 8) (ls := []) (gs := []) [] [0, 8] [(0, .d (.list 5 (List.map encNote p0))), (8, vI r1)] (r_right_ok hr) (by kernel_rfl) (by kernel_rfl) (by kernel_rfl) <| OWk.sg 27 H [] [0, 4] 1 [(0, .d (.list 5 (List.map encNote p0))), (4, vI r1)] (by kernel_rfl) <| OWk.done (by kernel_rfl) <| thenS_n <| SW.seq <| SW.regionK <| OWk.sg 27 H [] [0, 4, 10] 2 [(0, .d (.list 5 (List.map encNote p0))), (4, vI r1), (10, vB (r1 != 0))] (by kernel_rfl) <| OWk.done (by kernel_rfl) <| thenS_n ?_
  refine SW.condB (b := (r1 != 0)) (by kernel_rfl) (fun hc => ?_) (fun hc => ?_)
  · replace h := bif_t hc h
    refine SW.seq <| SW.regionK <| OWk.sg 27 H [] [2, 3] 3 [(2, .own 1 (List.map (D.int .i64) ([] : List Int))), (3, vI r1)] (by kernel_rfl) <| OWk.done (by kernel_rfl) <| thenS_n <| SW.ret <| thenS_r ?_
    cases h
    exact EndQ.ret [] (by kernel_rfl) rfl
  · replace h := bif_f hc h
    refine SW.skip <| thenS_n <| SW.seq <| SW.regionK <| OWk.sg 27 H [] [0, 5] 1 [(0, .d (.list 5 (List.map encNote p0))), (5, .own 1 (List.map (D.int .i64) ([] : List Int)))] (by kernel_rfl) <| OWk.done (by kernel_rfl) <| thenS_n <| SW.seq <| SW.seq <| SW.regionK <| OWk.sg 27 H [] [0, 5, 6] 1 [(0, .d (.list 5 (List.map encNote p0))), (5, .own 1 (List.map (D.int .i64) ([] : List Int))), (6, vI 1)] (by kernel_rfl) <| OWk.done (by kernel_rfl) <| thenS_n <| SW.block ?_
    obtain ⟨v5, hit, h⟩ := bind_inv h
    refine SW.it 27 H [0, 5, 6] (fun y2 => [(0, .d (.list 5 (List.map encNote p0))), (5, .own 1 (List.map (D.int .i64) y2.1)), (6, vI y2.2)]) (fun v5 e s => (e = .exit 0 ∧ s = (sp 27 [(5, .own 1 (List.map (D.int .i64) v5))] H))) hit (by kernel_rfl) (fun y2 o h => ?_) ?_
    · unfold r_Open_l1 at h
      refine SW.seq <| SW.seq <| SW.regionK <| OWk.sg 27 H [] [0, 5, 6, 13] 2 [(0, .d (.list 5 (List.map encNote p0))), (5, .own 1 (List.map (D.int .i64) y2.1)), (6, vI y2.2), (13, vB (decide (y2.2 ≤ 1000)))] (by kernel_rfl) <| OWk.done (by kernel_rfl) <| thenS_n ?_
      refine SW.condB (b := (decide (y2.2 ≤ 1000))) (by kernel_rfl) (fun hc => ?_) (fun hc => ?_)
      · replace h := bif_t hc h
        refine SW.skip <| thenS_n <| SW.seq <| SW.block <| SW.seq <| SW.regionK <| OWk.sg 27 H [] [0, 5, 6, 16, 17] 2 [(0, .d (.list 5 (List.map encNote p0))), (5, .own 1 (List.map (D.int .i64) y2.1)), (6, vI y2.2), (16, .d (.list 5 (List.map encNote p0))), (17, .d (.list 5 (List.map encNote p0)))] (by kernel_rfl) <| OWk.on 27 H (d := some 18) [0, 5, 6, 16, 18] [(0, .d (.list 5 (List.map encNote p0))), (5, .own 1 (List.map (D.int .i64) y2.1)), (6, vI y2.2), (16, .d (.list 5 (List.map encNote p0))), (18, vI (p0.length : Int))] (BAt.len (enc := encNote) (xs := p0) (by kernel_rfl)) (by kernel_rfl) <| OWk.sg 27 H [] [0, 5, 6, 16, 18, 19] 1 [(0, .d (.list 5 (List.map encNote p0))), (5, .own 1 (List.map (D.int .i64) y2.1)), (6, vI y2.2), (16, .d (.list 5 (List.map encNote p0))), (18, vI (p0.length : Int)), (19, vI y2.2)] (by kernel_rfl) ?_
        obtain ⟨r3, hr, h⟩ := bind_inv h
        refine OWk.cl 27 H (d := some 20) (ls := []) (gs := []) [] [0, 5, 6, 20] [(0, .d (.list 5 (List.map encNote p0))), (5, .own 1 (List.map (D.int .i64) y2.1)), (6, vI y2.2), (20, vI r3)] (r_since_ok hr) (by kernel_rfl) (by kernel_rfl) (by kernel_rfl) <| OWk.sg 27 H [] [0, 5, 6, 21] 1 [(0, .d (.list 5 (List.map encNote p0))), (5, .own 1 (List.map (D.int .i64) y2.1)), (6, vI y2.2), (21, vB (decide (r3 ≥ 0)))] (by kernel_rfl) <| OWk.done (by kernel_rfl) <| thenS_n ?_
        refine SW.condB (b := (decide (r3 ≥ 0))) (by kernel_rfl) (fun hc => ?_) (fun hc => ?_)
        · replace h := bif_t hc h
          refine SW.regionK <| OWk.sg 27 H [22] [0, 6, 22, 24] 3 [(0, .d (.list 5 (List.map encNote p0))), (6, vI y2.2), (22, .own 1 (List.map (D.int .i64) y2.1)), (24, .own 1 (List.map (D.int .i64) [y2.2]))] (by kernel_rfl) ?_
          obtain ⟨hk, h⟩ := chk_inv h
          refine OWk.app 27 H (s := 22) (d := 25) (w := 1) [0, 6, 25] (zs := List.map (D.int .i64) (y2.1 ++ [y2.2])) [(0, .d (.list 5 (List.map encNote p0))), (6, vI y2.2), (25, .own 1 (List.map (D.int .i64) (y2.1 ++ [y2.2])))] (ys := (List.map (D.int .i64) [y2.2])) (by kernel_rfl) (map_append') (room_map hk) (by kernel_rfl) <| OWk.sg 27 H [22] [0, 5, 6] 1 [(0, .d (.list 5 (List.map encNote p0))), (5, .own 1 (List.map (D.int .i64) (y2.1 ++ [y2.2]))), (6, vI y2.2)] (by kernel_rfl) <| OWk.done (by kernel_rfl) <| blockS_n <| thenS_n <| SW.regionK <| OWk.sg 27 H [] [0, 5, 6] 3 [(0, .d (.list 5 (List.map encNote p0))), (5, .own 1 (List.map (D.int .i64) (y2.1 ++ [y2.2]))), (6, vI (IntKind.wrap .i64 (y2.2 + 1)))] (by kernel_rfl) <| OWk.done (by kernel_rfl) ?_
          cases h
          exact ⟨((y2.1 ++ [y2.2]), (IntKind.wrap .i64 (y2.2 + 1))), rfl, by kernel_rfl⟩
        · replace h := bif_f hc h
          refine SW.skip <| blockS_n <| thenS_n <| SW.regionK <| OWk.sg 27 H [] [0, 5, 6] 3 [(0, .d (.list 5 (List.map encNote p0))), (5, .own 1 (List.map (D.int .i64) y2.1)), (6, vI (IntKind.wrap .i64 (y2.2 + 1)))] (by kernel_rfl) <| OWk.done (by kernel_rfl) ?_
          cases h
          exact ⟨(y2.1, (IntKind.wrap .i64 (y2.2 + 1))), rfl, by kernel_rfl⟩
      · replace h := bif_f hc h
        refine SW.kp 27 H [5] [(5, .own 1 (List.map (D.int .i64) y2.1))] (by kernel_rfl) <| SW.exit <| thenS_e ?_
        cases h
        refine thenS_e ?_
        exact ⟨_, rfl, ⟨rfl, rfl⟩⟩
    · rintro _ _ ⟨rfl, rfl⟩
      refine blockS_hit <| thenS_n <| SW.seq <| SW.regionK <| OWk.sg 27 H [26] [2, 3] 3 [(2, .own 1 (List.map (D.int .i64) v5)), (3, vI 0)] (by kernel_rfl) <| OWk.done (by kernel_rfl) <| thenS_n <| SW.ret ?_
      cases h
      exact EndQ.ret [] (by kernel_rfl) rfl
def r10_SameInts_l1 (fuel : Nat) (p0 : (List Int)) (p1 : (List Int)) (y1 : Int) : Option ((Int) ⊕ ((Unit) ⊕ ((Bool)))) :=
  bif (decide (y1 < (p0.length : Int))) then
    (idx p0 y1).bind fun x2 =>
    (idx p1 y1).bind fun x3 =>
    bif (x2 != x3) then
      some (.inr (.inr false))
    else
      some (.inl (IntKind.wrap .i64 (y1 + 1)))
  else
    some (.inr (.inl ()))
def r10_SameInts (fuel : Nat) (p0 : (List Int)) (p1 : (List Int)) : Option (Bool) :=
  bif ((p0.length : Int) != (p1.length : Int)) then
    some false
  else
    (iter (r10_SameInts_l1 fuel p0 p1) fuel 0).bind (Sum.elim (fun v5 =>
      some true) (fun r6 =>
      some r6))
theorem r10_SameInts_ok {fuel : Nat} {p0 : (List Int)} {p1 : (List Int)} {r : Bool} (h : r10_SameInts fuel p0 p1 = some r) : PC Tryz.prog 10 [.d (.list 1 (List.map (D.int .i64) p0)), .d (.list 1 (List.map (D.int .i64) p1))] (vB r) := by
  refine PC.of_SW Tryz.func10 rfl fun H => ?_
  unfold r10_SameInts at h
  refine SW.kp 26 H [0, 1] [(0, .d (.list 1 (List.map (D.int .i64) p0))), (1, .d (.list 1 (List.map (D.int .i64) p1)))] (by kernel_rfl) <| SW.seq <| SW.regionK <| OWk.sg 26 H [] [0, 1] 1 [(0, .d (.list 1 (List.map (D.int .i64) p0))), (1, .d (.list 1 (List.map (D.int .i64) p1)))] (by kernel_rfl) <| OWk.done (by kernel_rfl) <| thenS_n <| SW.seq <| SW.seq <| SW.regionK <| OWk.sg 26 H [] [0, 1, 6] 1 [(0, .d (.list 1 (List.map (D.int .i64) p0))), (1, .d (.list 1 (List.map (D.int .i64) p1))), (6, .d (.list 1 (List.map (D.int .i64) p0)))] (by kernel_rfl) <| OWk.on 26 H (d := some 7) [0, 1, 7] [(0, .d (.list 1 (List.map (D.int .i64) p0))), (1, .d (.list 1 (List.map (D.int .i64) p1))), (7, vI (p0.length : Int))] (BAt.len (enc := (D.int .i64)) (xs := p0) (by kernel_rfl)) (by kernel_rfl) <| OWk.sg 26 H [] [0, 1, 7, 8] 1 [(0, .d (.list 1 (List.map (D.int .i64) p0))), (1, .d (.list 1 (List.map (D.int .i64) p1))), (7, vI (p0.length : Int)), (8, .d (.list 1 (List.map (D.int .i64) p1)))] (by kernel_rfl) <| OWk.on 26 H (d := some 9) [0, 1, 7, 9] [(0, .d (.list 1 (List.map (D.int .i64) p0))), (1, .d (.list 1 (List.map (D.int .i64) p1))), (7, vI (p0.length : Int)), (9, vI (p1.length : Int))] (BAt.len (enc := (D.int .i64)) (xs := p1) (by kernel_rfl)) (by kernel_rfl) <| OWk.sg 26 H [] [0, 1, 10] 1 [(0, .d (.list 1 (List.map (D.int .i64) p0))), (1, .d (.list 1 (List.map (D.int .i64) p1))), (10, vB ((p0.length : Int) != (p1.length : Int)))] (by kernel_rfl) <| OWk.done (by kernel_rfl) <| thenS_n ?_
  refine SW.condB (b := ((p0.length : Int) != (p1.length : Int))) (by kernel_rfl) (fun hc => ?_) (fun hc => ?_)
  · replace h := bif_t hc h
    refine SW.seq <| SW.regionK <| OWk.sg 26 H [] [4] 1 [(4, vB false)] (by kernel_rfl) <| OWk.done (by kernel_rfl) <| thenS_n <| SW.ret <| thenS_r ?_
    cases h
    exact EndQ.ret [] (by kernel_rfl) rfl
  · replace h := bif_f hc h
    refine SW.skip <| thenS_n <| SW.seq <| SW.seq <| SW.regionK <| OWk.sg 26 H [] [0, 1, 5] 1 [(0, .d (.list 1 (List.map (D.int .i64) p0))), (1, .d (.list 1 (List.map (D.int .i64) p1))), (5, vI 0)] (by kernel_rfl) <| OWk.done (by kernel_rfl) <| thenS_n <| SW.block ?_
    obtain ⟨z4, hit, h⟩ := bind_inv h
    refine SW.it 26 H [0, 1, 5] (fun y1 => [(0, .d (.list 1 (List.map (D.int .i64) p0))), (1, .d (.list 1 (List.map (D.int .i64) p1))), (5, vI y1)]) (fun b e s => ((∃ v5, b = (.inl v5) ∧ (e = .exit 0 ∧ s = (sp 26 [] H))) ∨ (∃ r6, b = (.inr r6) ∧ (e = .ret ∧ EndQ Tryz.prog Tryz.f10.results.toList H (vB r6) .ret s)))) hit (by kernel_rfl) (fun y1 o h => ?_) ?_
    · unfold r10_SameInts_l1 at h
      refine SW.seq <| SW.seq <| SW.regionK <| OWk.sg 26 H [] [0, 1, 5, 11, 12] 2 [(0, .d (.list 1 (List.map (D.int .i64) p0))), (1, .d (.list 1 (List.map (D.int .i64) p1))), (5, vI y1), (11, vI y1), (12, .d (.list 1 (List.map (D.int .i64) p0)))] (by kernel_rfl) <| OWk.on 26 H (d := some 13) [0, 1, 5, 11, 13] [(0, .d (.list 1 (List.map (D.int .i64) p0))), (1, .d (.list 1 (List.map (D.int .i64) p1))), (5, vI y1), (11, vI y1), (13, vI (p0.length : Int))] (BAt.len (enc := (D.int .i64)) (xs := p0) (by kernel_rfl)) (by kernel_rfl) <| OWk.sg 26 H [] [0, 1, 5, 14] 1 [(0, .d (.list 1 (List.map (D.int .i64) p0))), (1, .d (.list 1 (List.map (D.int .i64) p1))), (5, vI y1), (14, vB (decide (y1 < (p0.length : Int))))] (by kernel_rfl) <| OWk.done (by kernel_rfl) <| thenS_n ?_
      refine SW.condB (b := (decide (y1 < (p0.length : Int)))) (by kernel_rfl) (fun hc => ?_) (fun hc => ?_)
      · replace h := bif_t hc h
        refine SW.skip <| thenS_n <| SW.seq <| SW.block <| SW.seq <| SW.regionDk (by kernel_rfl) (by kernel_rfl) <| OBk.sg 26 H [] [0, 1, 5, 17, 18] 2 [(0, .d (.list 1 (List.map (D.int .i64) p0))), (1, .d (.list 1 (List.map (D.int .i64) p1))), (5, vI y1), (17, .d (.list 1 (List.map (D.int .i64) p0))), (18, vI y1)] (by kernel_rfl) (by kernel_rfl) ?_
        obtain ⟨x2, hx, h⟩ := bind_inv h
        refine OBk.on 26 H (d := some 19) (s := lendP none (Go.Sh.D.cells ((D.int .i64) x2))) [0, 1, 5, 19] [(0, .d (.list 1 (List.map (D.int .i64) p0))), (1, .d (.list 1 (List.map (D.int .i64) p1))), (5, vI y1), (19, .d (.dptr [.int .i64 x2]))] (by kernel_rfl) (BAt.index (n := 1) hx (by kernel_rfl)) (by kernel_rfl) <| OBk.sg 26 H [] [0, 1, 5, 20, 21, 22] 3 [(0, .d (.list 1 (List.map (D.int .i64) p0))), (1, .d (.list 1 (List.map (D.int .i64) p1))), (5, vI y1), (20, vI x2), (21, .d (.list 1 (List.map (D.int .i64) p1))), (22, vI y1)] (by kernel_rfl) (by kernel_rfl) ?_
        obtain ⟨x3, hx, h⟩ := bind_inv h
        refine OBk.on 26 H (d := some 23) (s := lendP none (Go.Sh.D.cells ((D.int .i64) x3))) [0, 1, 5, 20, 23] [(0, .d (.list 1 (List.map (D.int .i64) p0))), (1, .d (.list 1 (List.map (D.int .i64) p1))), (5, vI y1), (20, vI x2), (23, .d (.dptr [.int .i64 x3]))] (by kernel_rfl) (BAt.index (n := 1) hx (by kernel_rfl)) (by kernel_rfl) <| OBk.sg 26 H [] [0, 1, 5, 25] 2 [(0, .d (.list 1 (List.map (D.int .i64) p0))), (1, .d (.list 1 (List.map (D.int .i64) p1))), (5, vI y1), (25, vB (x2 != x3))] (by kernel_rfl) (by kernel_rfl) <| OBk.done (by kernel_rfl) <| thenS_n ?_
        refine SW.condB (b := (x2 != x3)) (by kernel_rfl) (fun hc => ?_) (fun hc => ?_)
        · replace h := bif_t hc h
          refine SW.seq <| SW.regionK <| OWk.sg 26 H [] [4] 1 [(4, vB false)] (by kernel_rfl) <| OWk.done (by kernel_rfl) <| thenS_n <| SW.ret <| blockS_r <| thenS_r ?_
          cases h
          refine thenS_r ?_
          exact ⟨_, rfl, .inr (⟨false, rfl, rfl, EndQ.ret [] (by kernel_rfl) rfl⟩)⟩
        · replace h := bif_f hc h
          refine SW.skip <| blockS_n <| thenS_n <| SW.regionK <| OWk.sg 26 H [] [0, 1, 5] 3 [(0, .d (.list 1 (List.map (D.int .i64) p0))), (1, .d (.list 1 (List.map (D.int .i64) p1))), (5, vI (IntKind.wrap .i64 (y1 + 1)))] (by kernel_rfl) <| OWk.done (by kernel_rfl) ?_
          cases h
          exact ⟨(IntKind.wrap .i64 (y1 + 1)), rfl, by kernel_rfl⟩
      · replace h := bif_f hc h
        refine SW.kp 26 H [] [] (by kernel_rfl) <| SW.exit <| thenS_e ?_
        cases h
        refine thenS_e ?_
        exact ⟨_, rfl, .inl ⟨(), rfl, rfl, rfl⟩⟩
    · rintro _ _ (⟨v5, rfl, rfl, rfl⟩ | ⟨r6, rfl, rfl, hE⟩)
      · replace h := sum_l h
        refine blockS_hit <| thenS_n <| SW.seq <| SW.regionK <| OWk.sg 26 H [] [4] 1 [(4, vB true)] (by kernel_rfl) <| OWk.done (by kernel_rfl) <| thenS_n <| SW.ret ?_
        cases h
        exact EndQ.ret [] (by kernel_rfl) rfl
      · replace h := sum_r h
        refine blockS_r <| thenS_r ?_
        cases h
        exact hE
def j_Ended_1_1 (fuel : Nat) (p0 : Note) (p1 : Int) : Option (Bool) :=
  some ((p0.Unit == p1) && (p0.Kind == 5))
theorem j_Ended_1_1_ok {fuel : Nat} {p0 : Note} {p1 : Int} {r : Bool} (h : j_Ended_1_1 fuel p0 p1 = some r) : PC Tryz.prog 35 [.d (encNote p0), .d (.dptr [.int .i64 p1])] (vB r) := by
  refine PC.of_SW Tryz.func35 rfl fun H => ?_
  unfold j_Ended_1_1 at h
  refine SW.kp 13 H [0, 1] [(0, .d (.agg [.int .i64 p0.Kind, .int .i64 p0.Unit, .str p0.Key, .bool p0.Has, .str p0.Text])), (1, .d (.dptr [.int .i64 p1]))] (by kernel_rfl) <| SW.seq <| SW.regionK <| OWk.sg 13 H [] [1, 2] 2 [(1, .d (.dptr [.int .i64 p1])), (2, .box [vI p0.Kind, vI p0.Unit, vS p0.Key, vB p0.Has, vS p0.Text])] (by kernel_rfl) <| OWk.done (by kernel_rfl) <| thenS_n <| SW.seq <| SW.regionK <| OWk.sg 13 H [] [2, 8] 5 [(2, .box [vI p0.Kind, vI p0.Unit, vS p0.Key, vB p0.Has, vS p0.Text]), (8, vB (p0.Unit == p1))] (by kernel_rfl) <| OWk.mg 13 H [12] 4 (p0.Unit == p1) (fun b => (sp 13 [(2, .box [vI p0.Kind, vI p0.Unit, vS p0.Key, vB p0.Has, vS p0.Text]), (8, vB b)] H)) (fun b => [(12, vB (b && (p0.Kind == 5)))]) (by kernel_rfl) (by kernel_rfl) (by kernel_rfl) <| OWk.sg 13 H [] [3] 1 [(3, vB ((p0.Unit == p1) && (p0.Kind == 5)))] (by kernel_rfl) <| OWk.done (by kernel_rfl) <| thenS_n <| SW.ret ?_
  cases h
  exact EndQ.ret [] (by kernel_rfl) rfl
def slices_IndexFunc__j_Ended_1_1_l1 (fuel : Nat) (p0 : (List Note)) (c1_0 : Int) (y1 : Int) : Option ((Int) ⊕ ((Unit) ⊕ ((Int)))) :=
  bif (decide (y1 < (p0.length : Int))) then
    (idx p0 y1).bind fun x2 =>
    (j_Ended_1_1 fuel x2 c1_0).bind fun r3 =>
    bif r3 then
      some (.inr (.inr y1))
    else
      some (.inl (IntKind.wrap .i64 (y1 + 1)))
  else
    some (.inr (.inl ()))
def slices_IndexFunc__j_Ended_1_1 (fuel : Nat) (p0 : (List Note)) (c1_0 : Int) : Option (Int) :=
  (iter (slices_IndexFunc__j_Ended_1_1_l1 fuel p0 c1_0) fuel 0).bind (Sum.elim (fun v5 =>
    some (-1)) (fun r6 =>
    some r6))
theorem slices_IndexFunc__j_Ended_1_1_ok {fuel : Nat} {p0 : (List Note)} {c1_0 : Int} {r : Int} (h : slices_IndexFunc__j_Ended_1_1 fuel p0 c1_0 = some r) : PC Tryz.prog 48 [.d (.list 5 (List.map encNote p0)), .d (.fn (.func 35) [] [.dptr [.int .i64 c1_0]])] (vI r) := by
  refine PC.of_SW Tryz.func48 rfl fun H => ?_
  unfold slices_IndexFunc__j_Ended_1_1 at h
  refine SW.kp 19 H [0, 1] [(0, .d (.list 5 (List.map encNote p0))), (1, .d (.fn (.func 35) [] [.dptr [.int .i64 c1_0]]))] (by kernel_rfl) <| SW.seq <| SW.regionK <| OWk.sg 19 H [] [0, 1] 1 [(0, .d (.list 5 (List.map encNote p0))), (1, .d (.fn (.func 35) [] [.dptr [.int .i64 c1_0]]))] (by kernel_rfl) <| OWk.done (by kernel_rfl) <| thenS_n <| SW.seq <| SW.seq <| SW.regionK <| OWk.sg 19 H [] [0, 1, 6] 1 [(0, .d (.list 5 (List.map encNote p0))), (1, .d (.fn (.func 35) [] [.dptr [.int .i64 c1_0]])), (6, .d (.list 5 (List.map encNote p0)))] (by kernel_rfl) <| OWk.on 19 H (d := some 7) [0, 1, 7] [(0, .d (.list 5 (List.map encNote p0))), (1, .d (.fn (.func 35) [] [.dptr [.int .i64 c1_0]])), (7, vI (p0.length : Int))] (BAt.len (enc := encNote) (xs := p0) (by kernel_rfl)) (by kernel_rfl) <| OWk.sg 19 H [] [0, 1, 7, 8] 1 [(0, .d (.list 5 (List.map encNote p0))), (1, .d (.fn (.func 35) [] [.dptr [.int .i64 c1_0]])), (7, vI (p0.length : Int)), (8, vI 0)] (by kernel_rfl) <| OWk.done (by kernel_rfl) <| thenS_n <| SW.block ?_
  obtain ⟨z4, hit, h⟩ := bind_inv h
  refine SW.it 19 H [0, 1, 7, 8] (fun y1 => [(0, .d (.list 5 (List.map encNote p0))), (1, .d (.fn (.func 35) [] [.dptr [.int .i64 c1_0]])), (7, vI (p0.length : Int)), (8, vI y1)]) (fun b e s => ((∃ v5, b = (.inl v5) ∧ (e = .exit 0 ∧ s = (sp 19 [] H))) ∨ (∃ r6, b = (.inr r6) ∧ (e = .ret ∧ EndQ Tryz.prog Tryz.f48.results.toList H (vI r6) .ret s)))) hit (by kernel_rfl) (fun y1 o h => ?_) ?_
  · unfold slices_IndexFunc__j_Ended_1_1_l1 at h
    refine SW.seq <| SW.regionK <| OWk.sg 19 H [] [0, 1, 7, 8, 9] 1 [(0, .d (.list 5 (List.map encNote p0))), (1, .d (.fn (.func 35) [] [.dptr [.int .i64 c1_0]])), (7, vI (p0.length : Int)), (8, vI y1), (9, vB (decide (y1 < (p0.length : Int))))] (by kernel_rfl) <| OWk.done (by kernel_rfl) <| thenS_n <| SW.seq ?_
    refine SW.condB (b := (decide (y1 < (p0.length : Int)))) (by kernel_rfl) (fun hc => ?_) (fun hc => ?_)
    · replace h := bif_t hc h
      refine SW.skip <| thenS_n <| SW.seq <| SW.block <| SW.seq <| SW.regionK <| OWk.sg 19 H [] [0, 1, 5, 7, 8] 2 [(0, .d (.list 5 (List.map encNote p0))), (1, .d (.fn (.func 35) [] [.dptr [.int .i64 c1_0]])), (5, vI y1), (7, vI (p0.length : Int)), (8, vI y1)] (by kernel_rfl) <| OWk.done (by kernel_rfl) <| thenS_n <| SW.seq <| SW.regionK <| OWk.sg 19 H [] [0, 1, 5, 7, 8, 11, 12, 13] 3 [(0, .d (.list 5 (List.map encNote p0))), (1, .d (.fn (.func 35) [] [.dptr [.int .i64 c1_0]])), (5, vI y1), (7, vI (p0.length : Int)), (8, vI y1), (11, .d (.fn (.func 35) [] [.dptr [.int .i64 c1_0]])), (12, .d (.list 5 (List.map encNote p0))), (13, vI y1)] (by kernel_rfl) ?_
      obtain ⟨x2, hx, h⟩ := bind_inv h
      refine OWk.on 19 H (d := some 14) (s := lendP none (Go.Sh.D.cells (encNote x2))) [0, 1, 5, 7, 8, 11, 14] [(0, .d (.list 5 (List.map encNote p0))), (1, .d (.fn (.func 35) [] [.dptr [.int .i64 c1_0]])), (5, vI y1), (7, vI (p0.length : Int)), (8, vI y1), (11, .d (.fn (.func 35) [] [.dptr [.int .i64 c1_0]])), (14, .d (.dptr [.int .i64 x2.Kind, .int .i64 x2.Unit, .str x2.Key, .bool x2.Has, .str x2.Text]))] (BAt.index (n := 5) hx (by kernel_rfl)) (by kernel_rfl) <| OWk.sg 19 H [] [0, 1, 5, 7, 8, 11, 15] 1 [(0, .d (.list 5 (List.map encNote p0))), (1, .d (.fn (.func 35) [] [.dptr [.int .i64 c1_0]])), (5, vI y1), (7, vI (p0.length : Int)), (8, vI y1), (11, .d (.fn (.func 35) [] [.dptr [.int .i64 c1_0]])), (15, .d (.agg [.int .i64 x2.Kind, .int .i64 x2.Unit, .str x2.Key, .bool x2.Has, .str x2.Text]))] (by kernel_rfl) ?_
      obtain ⟨r3, hr, h⟩ := bind_inv h
      refine OWk.cl 19 H (d := some 16) (ls := []) (gs := []) [] [0, 1, 5, 7, 8, 16] [(0, .d (.list 5 (List.map encNote p0))), (1, .d (.fn (.func 35) [] [.dptr [.int .i64 c1_0]])), (5, vI y1), (7, vI (p0.length : Int)), (8, vI y1), (16, vB r3)] (j_Ended_1_1_ok hr) (by kernel_rfl) (by kernel_rfl) (by kernel_rfl) <| OWk.done (by kernel_rfl) <| thenS_n ?_
      refine SW.condB (b := r3) (by kernel_rfl) (fun hc => ?_) (fun hc => ?_)
      · replace h := bif_t hc h
        refine SW.seq <| SW.regionK <| OWk.sg 19 H [] [4] 2 [(4, vI y1)] (by kernel_rfl) <| OWk.done (by kernel_rfl) <| thenS_n <| SW.ret <| blockS_r <| thenS_r ?_
        cases h
        refine thenS_r ?_
        exact ⟨_, rfl, .inr (⟨y1, rfl, rfl, EndQ.ret [] (by kernel_rfl) rfl⟩)⟩
      · replace h := bif_f hc h
        refine SW.skip <| blockS_n <| thenS_n <| SW.regionK <| OWk.sg 19 H [] [0, 1, 7, 8] 2 [(0, .d (.list 5 (List.map encNote p0))), (1, .d (.fn (.func 35) [] [.dptr [.int .i64 c1_0]])), (7, vI (p0.length : Int)), (8, vI (IntKind.wrap .i64 (y1 + 1)))] (by kernel_rfl) <| OWk.done (by kernel_rfl) ?_
        cases h
        exact ⟨(IntKind.wrap .i64 (y1 + 1)), rfl, by kernel_rfl⟩
    · replace h := bif_f hc h
      refine SW.kp 19 H [] [] (by kernel_rfl) <| SW.exit <| thenS_e ?_
      cases h
      refine thenS_e ?_
      exact ⟨_, rfl, .inl ⟨(), rfl, rfl, rfl⟩⟩
  · rintro _ _ (⟨v5, rfl, rfl, rfl⟩ | ⟨r6, rfl, rfl, hE⟩)
    · replace h := sum_l h
      refine blockS_hit <| thenS_n <| SW.seq <| SW.regionK <| OWk.sg 19 H [] [4] 1 [(4, vI (-1))] (by kernel_rfl) <| OWk.done (by kernel_rfl) <| thenS_n <| SW.ret ?_
      cases h
      exact EndQ.ret [] (by kernel_rfl) rfl
    · replace h := sum_r h
      refine blockS_r <| thenS_r ?_
      cases h
      exact hE
def slices_ContainsFunc__j_Ended_1_1 (fuel : Nat) (p0 : (List Note)) (c1_0 : Int) : Option (Bool) :=
  (slices_IndexFunc__j_Ended_1_1 fuel p0 c1_0).bind fun r1 =>
  some (decide (r1 ≥ 0))
theorem slices_ContainsFunc__j_Ended_1_1_ok {fuel : Nat} {p0 : (List Note)} {c1_0 : Int} {r : Bool} (h : slices_ContainsFunc__j_Ended_1_1 fuel p0 c1_0 = some r) : PC Tryz.prog 34 [.d (.list 5 (List.map encNote p0)), .d (.fn (.func 35) [] [.dptr [.int .i64 c1_0]])] (vB r) := by
  refine PC.of_SW Tryz.func34 rfl fun H => ?_
  unfold slices_ContainsFunc__j_Ended_1_1 at h
  refine SW.kp 9 H [0, 1] [(0, .d (.list 5 (List.map encNote p0))), (1, .d (.fn (.func 35) [] [.dptr [.int .i64 c1_0]]))] (by kernel_rfl) <| SW.seq <| SW.regionK <| OWk.sg 9 H [] [0, 1] 1 [(0, .d (.list 5 (List.map encNote p0))), (1, .d (.fn (.func 35) [] [.dptr [.int .i64 c1_0]]))] (by kernel_rfl) <| OWk.done (by kernel_rfl) <| thenS_n <| SW.seq <| SW.regionK <| OWk.sg 9 H [] [5, 6] 2 [(5, .d (.list 5 (List.map encNote p0))), (6, .d (.fn (.func 35) [] [.dptr [.int .i64 c1_0]]))] (by kernel_rfl) ?_
  obtain ⟨r1, hr, h⟩ := bind_inv h
  refine OWk.cl 9 H (d := some 7) (ls := []) (gs := []) [] [7] [(7, vI r1)] (slices_IndexFunc__j_Ended_1_1_ok hr) (by kernel_rfl) (by kernel_rfl) (by kernel_rfl) <| OWk.sg 9 H [] [4] 2 [(4, vB (decide (r1 ≥ 0)))] (by kernel_rfl) <| OWk.done (by kernel_rfl) <| thenS_n <| SW.ret ?_
  cases h
  exact EndQ.ret [] (by kernel_rfl) rfl
def j_Ended_1 (fuel : Nat) (p0 : Int) (p1 : (List Note)) : Option (Bool) :=
  (slices_ContainsFunc__j_Ended_1_1 fuel p1 p0).bind fun r1 =>
  some r1
theorem j_Ended_1_ok {fuel : Nat} {p0 : Int} {p1 : (List Note)} {r : Bool} (h : j_Ended_1 fuel p0 p1 = some r) : PC Tryz.prog 33 [vI p0, .d (.dptr [.list 5 (List.map encNote p1)])] (vB r) := by
  refine PC.of_SW Tryz.func33 rfl fun H => ?_
  unfold j_Ended_1 at h
  refine SW.kp 7 H [0, 1] [(0, vI p0), (1, .d (.dptr [.list 5 (List.map encNote p1)]))] (by kernel_rfl) <| SW.seq <| SW.regionK <| OWk.bxf 7 H (d := 2) (ds := [.int .i64 p0]) [1, 2] [(1, .d (.dptr [.list 5 (List.map encNote p1)])), (2, .d (.dptr [.int .i64 p0]))] (by kernel_rfl) (by kernel_rfl) <| OWk.sg 7 H [] [1, 2] 1 [(1, .d (.dptr [.list 5 (List.map encNote p1)])), (2, .d (.dptr [.int .i64 p0]))] (by kernel_rfl) <| OWk.done (by kernel_rfl) <| thenS_n <| SW.seq <| SW.regionK <| OWk.sg 7 H [] [4, 5] 2 [(4, .d (.list 5 (List.map encNote p1))), (5, .d (.fn (.func 35) [] [.dptr [.int .i64 p0]]))] (by kernel_rfl) ?_
  obtain ⟨r1, hr, h⟩ := bind_inv h
  refine OWk.cl 7 H (d := some 6) (ls := []) (gs := []) [] [6] [(6, vB r1)] (slices_ContainsFunc__j_Ended_1_1_ok hr) (by kernel_rfl) (by kernel_rfl) (by kernel_rfl) <| OWk.sg 7 H [] [3] 1 [(3, vB r1)] (by kernel_rfl) <| OWk.done (by kernel_rfl) <| thenS_n <| SW.ret ?_
  cases h
  exact EndQ.ret [] (by kernel_rfl) rfl
def j_units__j_Ended_1_l1 (fuel : Nat) (p0 : (List Note)) (c1_0 : (List Note)) (q1 : (Hp × Nat)) (y2 : Int × Hp) : Option ((Int × Hp) ⊕ (Hp)) :=
  bif (decide (y2.1 < (p0.length : Int))) then
    (idx p0 y2.1).bind fun x3 =>
    bif (x3.Kind != 6) then
      (j_Ended_1 fuel x3.Unit c1_0).bind fun r4 =>
      bif r4 then
        (hMput (kI .i64) cB y2.2 (some q1.2) x3.Unit true).bind fun H5 =>
        some (.inl ((IntKind.wrap .i64 (y2.1 + 1)), H5))
      else
        some (.inl ((IntKind.wrap .i64 (y2.1 + 1)), y2.2))
    else
      some (.inl ((IntKind.wrap .i64 (y2.1 + 1)), y2.2))
  else
    some (.inr y2.2)
def j_units__j_Ended_1_l2 (fuel : Nat) (q8 : (Rng Int Bool)) (y9 : (List Int) × Hp) (e10 : (Int × Bool)) : Option (((List Int) × Hp) ⊕ (Empty)) :=
  chk (decide ((y9.1 ++ [e10.1]).length ≤ room)) <|
  chk (holes q8 y9.2) <|
  some (.inl ((y9.1 ++ [e10.1]), y9.2))
noncomputable def j_units__j_Ended_1 (fuel : Nat) (p0 : (List Note)) (c1_0 : (List Note)) : Option ((List Int)) :=
  (hNew [] (.map [])).bind fun q1 =>
  (iter (j_units__j_Ended_1_l1 fuel p0 c1_0 q1) fuel (0, q1.1)).bind fun v7 =>
  (hRange (kI .i64) cB v7 (some q1.2)).bind fun q8 =>
  allP q8.es fun p => (foldI (j_units__j_Ended_1_l2 fuel q8) (([] : List Int), q8.H) p).bind (Sum.elim (fun y11 =>
    (hBack (kI .i64) cB q8 y11.2).bind fun H12 =>
    (sortI fuel y11.1).bind fun r13 =>
    some r13)
    Empty.elim)
theorem j_units__j_Ended_1_ok {fuel : Nat} {p0 : (List Note)} {c1_0 : (List Note)} {r : (List Int)} (h : j_units__j_Ended_1 fuel p0 c1_0 = some r) : PC Tryz.prog 28 [.d (.list 5 (List.map encNote p0)), .d (.fn (.func 33) [] [.dptr [.list 5 (List.map encNote c1_0)]])] (.own 1 (List.map (D.int .i64) r)) := by
  refine PC.of_localSW Tryz.func28 rfl (by simp [noPtrSV, noPtr, noPtrs, vI, vB, vS, noPtrs_map (f := encNote) encNote_np, noPtrs_map (f := encNote) encNote_np]) (by simp [noPtrSV, noPtr, noPtrs, vI, vB, vS, noPtrs_map (f := (D.int .i64)) (fun _ => rfl)]) ?_
  unfold j_units__j_Ended_1 at h
  refine SW.kp 43 [] [0, 1] [(0, .d (.list 5 (List.map encNote p0))), (1, .d (.fn (.func 33) [] [.dptr [.list 5 (List.map encNote c1_0)]]))] (by kernel_rfl) <| SW.seq <| SW.regionK <| OWk.sg 43 [] [] [0, 1] 1 [(0, .d (.list 5 (List.map encNote p0))), (1, .d (.fn (.func 33) [] [.dptr [.list 5 (List.map encNote c1_0)]]))] (by kernel_rfl) <| OWk.done (by kernel_rfl) <| thenS_n <| SW.seq <| SW.regionK ?_
  obtain ⟨q1, hq, h⟩ := bind_inv h
  refine OWk.hnew 43 q1.1 (d := some 10) (b := true) [] [0, 1, 10] [(0, .d (.list 5 (List.map encNote p0))), (1, .d (.fn (.func 33) [] [.dptr [.list 5 (List.map encNote c1_0)]])), (10, .d (.map q1.2))] hq (by kernel_rfl) rfl (by kernel_rfl) <| OWk.sg 43 q1.1 [] [0, 1, 5] 1 [(0, .d (.list 5 (List.map encNote p0))), (1, .d (.fn (.func 33) [] [.dptr [.list 5 (List.map encNote c1_0)]])), (5, .d (.map q1.2))] (by kernel_rfl) <| OWk.done (by kernel_rfl) <| thenS_n <| SW.seq <| SW.seq <| SW.regionK <| OWk.sg 43 q1.1 [] [1, 5, 11] 1 [(1, .d (.fn (.func 33) [] [.dptr [.list 5 (List.map encNote c1_0)]])), (5, .d (.map q1.2)), (11, .d (.list 5 (List.map encNote p0)))] (by kernel_rfl) <| OWk.on 43 q1.1 (d := some 12) [1, 5, 11, 12] [(1, .d (.fn (.func 33) [] [.dptr [.list 5 (List.map encNote c1_0)]])), (5, .d (.map q1.2)), (11, .d (.list 5 (List.map encNote p0))), (12, vI (p0.length : Int))] (BAt.len (enc := encNote) (xs := p0) (by kernel_rfl)) (by kernel_rfl) <| OWk.sg 43 q1.1 [] [1, 5, 11, 12, 13] 1 [(1, .d (.fn (.func 33) [] [.dptr [.list 5 (List.map encNote c1_0)]])), (5, .d (.map q1.2)), (11, .d (.list 5 (List.map encNote p0))), (12, vI (p0.length : Int)), (13, vI 0)] (by kernel_rfl) <| OWk.done (by kernel_rfl) <| thenS_n <| SW.block ?_
  obtain ⟨v7, hit, h⟩ := bind_inv h
  refine SW.itH 43 [1, 5, 11, 12, 13] (fun y2 => [(1, .d (.fn (.func 33) [] [.dptr [.list 5 (List.map encNote c1_0)]])), (5, .d (.map q1.2)), (11, .d (.list 5 (List.map encNote p0))), (12, vI (p0.length : Int)), (13, vI y2.1)]) (fun y2 => y2.2) (fun v7 e s => (e = .exit 0 ∧ s = (sp 43 [(5, .d (.map q1.2))] v7))) hit (by kernel_rfl) (fun y2 o h => ?_) ?_
  · unfold j_units__j_Ended_1_l1 at h
    refine SW.seq <| SW.regionK <| OWk.sg 43 y2.2 [] [1, 5, 11, 12, 13, 14] 1 [(1, .d (.fn (.func 33) [] [.dptr [.list 5 (List.map encNote c1_0)]])), (5, .d (.map q1.2)), (11, .d (.list 5 (List.map encNote p0))), (12, vI (p0.length : Int)), (13, vI y2.1), (14, vB (decide (y2.1 < (p0.length : Int))))] (by kernel_rfl) <| OWk.done (by kernel_rfl) <| thenS_n <| SW.seq ?_
    refine SW.condB (b := (decide (y2.1 < (p0.length : Int)))) (by kernel_rfl) (fun hc => ?_) (fun hc => ?_)
    · replace h := bif_t hc h
      refine SW.skip <| thenS_n <| SW.seq <| SW.block <| SW.seq <| SW.regionK ?_
      obtain ⟨x3, hx, h⟩ := bind_inv h
      refine OWk.on 43 y2.2 (d := some 15) (s := lendP none (Go.Sh.D.cells (encNote x3))) [1, 5, 11, 12, 13, 15] [(1, .d (.fn (.func 33) [] [.dptr [.list 5 (List.map encNote c1_0)]])), (5, .d (.map q1.2)), (11, .d (.list 5 (List.map encNote p0))), (12, vI (p0.length : Int)), (13, vI y2.1), (15, .d (.dptr [.int .i64 x3.Kind, .int .i64 x3.Unit, .str x3.Key, .bool x3.Has, .str x3.Text]))] (BAt.index (n := 5) hx (by kernel_rfl)) (by kernel_rfl) <| OWk.sg 43 y2.2 [] [1, 5, 7, 11, 12, 13] 3 [(1, .d (.fn (.func 33) [] [.dptr [.list 5 (List.map encNote c1_0)]])), (5, .d (.map q1.2)), (7, .box [vI x3.Kind, vI x3.Unit, vS x3.Key, vB x3.Has, vS x3.Text]), (11, .d (.list 5 (List.map encNote p0))), (12, vI (p0.length : Int)), (13, vI y2.1)] (by kernel_rfl) <| OWk.done (by kernel_rfl) <| thenS_n <| SW.seq <| SW.regionK <| OWk.sg 43 y2.2 [] [1, 5, 7, 11, 12, 13, 20] 4 [(1, .d (.fn (.func 33) [] [.dptr [.list 5 (List.map encNote c1_0)]])), (5, .d (.map q1.2)), (7, .box [vI x3.Kind, vI x3.Unit, vS x3.Key, vB x3.Has, vS x3.Text]), (11, .d (.list 5 (List.map encNote p0))), (12, vI (p0.length : Int)), (13, vI y2.1), (20, vB (x3.Kind != 6))] (by kernel_rfl) ?_
      refine OWk.case (x3.Kind != 6) (fun b => (sp 43 [(1, .d (.fn (.func 33) [] [.dptr [.list 5 (List.map encNote c1_0)]])), (5, .d (.map q1.2)), (7, .box [vI x3.Kind, vI x3.Unit, vS x3.Key, vB x3.Has, vS x3.Text]), (11, .d (.list 5 (List.map encNote p0))), (12, vI (p0.length : Int)), (13, vI y2.1), (20, vB b)] y2.2)) (by kernel_rfl) (fun hc => ?_) (fun hc => ?_)
      · replace h := bif_t hc h
        refine OWk.sg 43 y2.2 [] [1, 5, 7, 11, 12, 13, 20, 21, 23] 3 [(1, .d (.fn (.func 33) [] [.dptr [.list 5 (List.map encNote c1_0)]])), (5, .d (.map q1.2)), (7, .box [vI x3.Kind, vI x3.Unit, vS x3.Key, vB x3.Has, vS x3.Text]), (11, .d (.list 5 (List.map encNote p0))), (12, vI (p0.length : Int)), (13, vI y2.1), (20, vB true), (21, .d (.fn (.func 33) [] [.dptr [.list 5 (List.map encNote c1_0)]])), (23, vI x3.Unit)] (by kernel_rfl) ?_
        obtain ⟨r4, hr, h⟩ := bind_inv h
        refine OWk.cl 43 y2.2 (d := some 24) (ls := []) (gs := []) [] [1, 5, 7, 11, 12, 13, 20, 24] [(1, .d (.fn (.func 33) [] [.dptr [.list 5 (List.map encNote c1_0)]])), (5, .d (.map q1.2)), (7, .box [vI x3.Kind, vI x3.Unit, vS x3.Key, vB x3.Has, vS x3.Text]), (11, .d (.list 5 (List.map encNote p0))), (12, vI (p0.length : Int)), (13, vI y2.1), (20, vB true), (24, vB r4)] (j_Ended_1_ok hr) (by kernel_rfl) (by kernel_rfl) (by kernel_rfl) <| OWk.sg 43 y2.2 [] [1, 5, 7, 11, 12, 13, 25] 1 [(1, .d (.fn (.func 33) [] [.dptr [.list 5 (List.map encNote c1_0)]])), (5, .d (.map q1.2)), (7, .box [vI x3.Kind, vI x3.Unit, vS x3.Key, vB x3.Has, vS x3.Text]), (11, .d (.list 5 (List.map encNote p0))), (12, vI (p0.length : Int)), (13, vI y2.1), (25, vB r4)] (by kernel_rfl) <| OWk.done (by kernel_rfl) <| thenS_n ?_
        refine SW.condB (b := r4) (by kernel_rfl) (fun hc => ?_) (fun hc => ?_)
        · replace h := bif_t hc h
          refine SW.regionK <| OWk.sg 43 y2.2 [] [1, 5, 11, 12, 13, 26, 28] 3 [(1, .d (.fn (.func 33) [] [.dptr [.list 5 (List.map encNote c1_0)]])), (5, .d (.map q1.2)), (11, .d (.list 5 (List.map encNote p0))), (12, vI (p0.length : Int)), (13, vI y2.1), (26, .d (.map q1.2)), (28, vI x3.Unit)] (by kernel_rfl) ?_
          obtain ⟨H5, hx, h⟩ := bind_inv h
          refine OWk.mput 43 H5 (kc := (kI .i64)) (v := cB) (mm := (some q1.2)) (key := x3.Unit) (y := true) [1, 5, 11, 12, 13] [(1, .d (.fn (.func 33) [] [.dptr [.list 5 (List.map encNote c1_0)]])), (5, .d (.map q1.2)), (11, .d (.list 5 (List.map encNote p0))), (12, vI (p0.length : Int)), (13, vI y2.1)] hx (by kernel_rfl) (by kernel_rfl) <| OWk.done (by kernel_rfl) <| blockS_n <| thenS_n <| SW.regionK <| OWk.sg 43 H5 [] [1, 5, 11, 12, 13] 2 [(1, .d (.fn (.func 33) [] [.dptr [.list 5 (List.map encNote c1_0)]])), (5, .d (.map q1.2)), (11, .d (.list 5 (List.map encNote p0))), (12, vI (p0.length : Int)), (13, vI (IntKind.wrap .i64 (y2.1 + 1)))] (by kernel_rfl) <| OWk.done (by kernel_rfl) ?_
          cases h
          exact ⟨((IntKind.wrap .i64 (y2.1 + 1)), H5), rfl, by kernel_rfl⟩
        · replace h := bif_f hc h
          refine SW.skip <| blockS_n <| thenS_n <| SW.regionK <| OWk.sg 43 y2.2 [] [1, 5, 11, 12, 13] 2 [(1, .d (.fn (.func 33) [] [.dptr [.list 5 (List.map encNote c1_0)]])), (5, .d (.map q1.2)), (11, .d (.list 5 (List.map encNote p0))), (12, vI (p0.length : Int)), (13, vI (IntKind.wrap .i64 (y2.1 + 1)))] (by kernel_rfl) <| OWk.done (by kernel_rfl) ?_
          cases h
          exact ⟨((IntKind.wrap .i64 (y2.1 + 1)), y2.2), rfl, by kernel_rfl⟩
      · replace h := bif_f hc h
        refine OWk.sg 43 y2.2 [] [1, 5, 7, 11, 12, 13, 25] 5 [(1, .d (.fn (.func 33) [] [.dptr [.list 5 (List.map encNote c1_0)]])), (5, .d (.map q1.2)), (7, .box [vI x3.Kind, vI x3.Unit, vS x3.Key, vB x3.Has, vS x3.Text]), (11, .d (.list 5 (List.map encNote p0))), (12, vI (p0.length : Int)), (13, vI y2.1), (25, vB false)] (by kernel_rfl) <| OWk.done (by kernel_rfl) <| thenS_n <| SW.condF (by kernel_rfl) <| SW.skip <| blockS_n <| thenS_n <| SW.regionK <| OWk.sg 43 y2.2 [] [1, 5, 11, 12, 13] 2 [(1, .d (.fn (.func 33) [] [.dptr [.list 5 (List.map encNote c1_0)]])), (5, .d (.map q1.2)), (11, .d (.list 5 (List.map encNote p0))), (12, vI (p0.length : Int)), (13, vI (IntKind.wrap .i64 (y2.1 + 1)))] (by kernel_rfl) <| OWk.done (by kernel_rfl) ?_
        cases h
        exact ⟨((IntKind.wrap .i64 (y2.1 + 1)), y2.2), rfl, by kernel_rfl⟩
    · replace h := bif_f hc h
      refine SW.kp 43 y2.2 [5] [(5, .d (.map q1.2))] (by kernel_rfl) <| SW.exit <| thenS_e ?_
      cases h
      refine thenS_e ?_
      exact ⟨_, rfl, ⟨rfl, rfl⟩⟩
  · rintro _ _ ⟨rfl, rfl⟩
    refine blockS_hit <| thenS_n <| SW.seq <| SW.regionK <| OWk.sg 43 v7 [] [5, 8] 1 [(5, .d (.map q1.2)), (8, .own 1 (List.map (D.int .i64) ([] : List Int)))] (by kernel_rfl) <| OWk.done (by kernel_rfl) <| thenS_n <| SW.seq <| SW.seq <| SW.regionK <| OWk.sg 43 v7 [] [8, 30] 1 [(8, .own 1 (List.map (D.int .i64) ([] : List Int))), (30, .d (.map q1.2))] (by kernel_rfl) ?_
    obtain ⟨q8, hrq, h⟩ := bind_inv h
    refine OWk.mrange 43 (mm := (some q1.2)) (d := some 31) hrq (by kernel_rfl) [8, 31] [(8, .own 1 (List.map (D.int .i64) ([] : List Int))), (31, .d (.ptr q8.it 0))] (fun H1 => by kernel_rfl) (fun kbq8 clq8 msq8 => ?_)
    refine OWk.done (by kernel_rfl) <| thenS_n <| SW.block ?_
    have hit := fun p (hp : p.Perm q8.es) => bind_inv (allP_inv h p hp)
    refine SW.rng 43 (B := 2) (B2 := 3) (q := q8) (kc := (kI .i64)) (v := cB) (kb := kbq8) (clock := clq8) (ms := msq8) [8, 31] (fun (y9 : (List Int) × Hp) => [(8, .own 1 (List.map (D.int .i64) y9.1)), (31, .d (.ptr q8.it 0))]) (fun (y9 : (List Int) × Hp) => y9.2) (j_units__j_Ended_1_l2 fuel q8) (([] : List Int), q8.H) _ (fun b e s => False) hrq hit (by kernel_rfl) rfl rfl rfl rfl rfl rfl rfl rfl rfl rfl rfl (fun _ => by kernel_rfl) (fun _ => by kernel_rfl) (fun y9 e10 o hho h => ?_) (fun y11 hC => ?_) ?_
    · unfold j_units__j_Ended_1_l2 at h
      refine OWk.sg 43 y9.2 [] [8, 9, 31] 2 [(8, .own 1 (List.map (D.int .i64) y9.1)), (9, vI e10.1), (31, .d (.ptr q8.it 0))] (by kernel_rfl) <| OWk.done (by kernel_rfl) <| thenS_n <| SW.regionK <| OWk.sg 43 y9.2 [36] [31, 36, 38] 3 [(31, .d (.ptr q8.it 0)), (36, .own 1 (List.map (D.int .i64) y9.1)), (38, .own 1 (List.map (D.int .i64) [e10.1]))] (by kernel_rfl) ?_
      obtain ⟨hk, h⟩ := chk_inv h
      refine OWk.app 43 y9.2 (s := 36) (d := 39) (w := 1) [31, 39] (zs := List.map (D.int .i64) (y9.1 ++ [e10.1])) [(31, .d (.ptr q8.it 0)), (39, .own 1 (List.map (D.int .i64) (y9.1 ++ [e10.1])))] (ys := (List.map (D.int .i64) [e10.1])) (by kernel_rfl) (map_append') (room_map hk) (by kernel_rfl) <| OWk.sg 43 y9.2 [36] [8, 31] 1 [(8, .own 1 (List.map (D.int .i64) (y9.1 ++ [e10.1]))), (31, .d (.ptr q8.it 0))] (by kernel_rfl) <| OWk.done (by kernel_rfl) <| blockS_n ?_
      obtain ⟨hho, h⟩ := chk_inv h
      cases h
      exact ⟨((y9.1 ++ [e10.1]), y9.2), rfl, hho, by kernel_rfl⟩
    · replace hC := sum_l hC
      obtain ⟨H12, hb, h⟩ := bind_inv hC
      refine ⟨H12, hb, ?_⟩
      refine blockS_hit <| thenS_n <| SW.seq <| SW.regionK <| OWk.on 43 H12 (d := some 40) (s := .als 8) [8, 40] [(8, .own 1 (List.map (D.int .i64) y11.1)), (40, .als 8)] (BAt.als (s := 8) (by kernel_rfl)) (by kernel_rfl) ?_
      obtain ⟨r13, hr, h⟩ := bind_inv h
      refine OWk.ic (s := 8) (p := none) (d := some 41) 43 H12 [8] [(8, .own 1 (List.map (D.int .i64) r13))] (sortI_ok hr) (by kernel_rfl) (by kernel_rfl) <| OWk.done (by kernel_rfl) <| thenS_n <| SW.seq <| SW.regionK <| OWk.sg 43 H12 [42] [4] 2 [(4, .own 1 (List.map (D.int .i64) r13))] (by kernel_rfl) <| OWk.done (by kernel_rfl) <| thenS_n <| SW.ret ?_
      cases h
      exact EndL.ret [] (by kernel_rfl)
    · exact fun b => b.elim
noncomputable def j_Ended (fuel : Nat) (p0 : (List Note)) : Option ((List Int) × Int) :=
  (j_right fuel p0).bind fun r1 =>
  bif (r1 != 0) then
    some (([] : List Int), r1)
  else
    (j_units__j_Ended_1 fuel p0 p0).bind fun r2 =>
    some (r2, 0)
theorem j_Ended_ok {fuel : Nat} {p0 : (List Note)} {r : (List Int) × Int} (h : j_Ended fuel p0 = some r) : PC Tryz.prog 11 [.d (.list 5 (List.map encNote p0))] (.tup [.own 1 (List.map (D.int .i64) r.1), vI r.2]) := by
  refine PC.of_SW Tryz.func11 rfl fun H => ?_
  unfold j_Ended at h
  refine SW.kp 13 H [0] [(0, .d (.list 5 (List.map encNote p0)))] (by kernel_rfl) <| SW.seq <| SW.regionK <| OWk.bxf 13 H (d := 1) (ds := [.list 5 (List.map encNote p0)]) [1] [(1, .d (.dptr [.list 5 (List.map encNote p0)]))] (by kernel_rfl) (by kernel_rfl) <| OWk.sg 13 H [] [1] 2 [(1, .d (.dptr [.list 5 (List.map encNote p0)]))] (by kernel_rfl) <| OWk.done (by kernel_rfl) <| thenS_n <| SW.seq <| SW.seq <| SW.regionK <| OWk.sg 13 H [] [1, 5] 1 [(1, .d (.dptr [.list 5 (List.map encNote p0)])), (5, .d (.list 5 (List.map encNote p0)))] (by kernel_rfl) ?_
  obtain ⟨r1, hr, h⟩ := bind_inv h
  refine OWk.cl 13 H (d := some 6) (ls := []) (gs := []) [] [1, 6] [(1, .d (.dptr [.list 5 (List.map encNote p0)])), (6, vI r1)] (j_right_ok hr) (by kernel_rfl) (by kernel_rfl) (by kernel_rfl) <| OWk.sg 13 H [] [1, 4] 1 [(1, .d (.dptr [.list 5 (List.map encNote p0)])), (4, vI r1)] (by kernel_rfl) <| OWk.done (by kernel_rfl) <| thenS_n <| SW.seq <| SW.regionK <| OWk.sg 13 H [] [1, 4, 8] 2 [(1, .d (.dptr [.list 5 (List.map encNote p0)])), (4, vI r1), (8, vB (r1 != 0))] (by kernel_rfl) <| OWk.done (by kernel_rfl) <| thenS_n ?_
  refine SW.condB (b := (r1 != 0)) (by kernel_rfl) (fun hc => ?_) (fun hc => ?_)
  · replace h := bif_t hc h
    refine SW.seq <| SW.regionK <| OWk.sg 13 H [] [2, 3] 3 [(2, .own 1 (List.map (D.int .i64) ([] : List Int))), (3, vI r1)] (by kernel_rfl) <| OWk.done (by kernel_rfl) <| thenS_n <| SW.ret <| thenS_r ?_
    cases h
    exact EndQ.ret [] (by kernel_rfl) rfl
  · replace h := bif_f hc h
    refine SW.skip <| thenS_n <| SW.seq <| SW.regionK <| OWk.sg 13 H [] [10, 11] 2 [(10, .d (.list 5 (List.map encNote p0))), (11, .d (.fn (.func 33) [] [.dptr [.list 5 (List.map encNote p0)]]))] (by kernel_rfl) ?_
    obtain ⟨r2, hr, h⟩ := bind_inv h
    refine OWk.cl 13 H (d := some 12) (ls := []) (gs := []) [] [12] [(12, .own 1 (List.map (D.int .i64) r2))] (j_units__j_Ended_1_ok hr) (by kernel_rfl) (by kernel_rfl) (by kernel_rfl) <| OWk.sg 13 H [] [2, 3] 2 [(2, .own 1 (List.map (D.int .i64) r2)), (3, vI 0)] (by kernel_rfl) <| OWk.done (by kernel_rfl) <| thenS_n <| SW.ret ?_
    cases h
    exact EndQ.ret [] (by kernel_rfl) rfl
def r_Ended_l1 (fuel : Nat) (p0 : (List Note)) (y2 : (List Int) × Int) (y3 : Bool × Int) : Option ((Bool × Int) ⊕ (Bool)) :=
  bif (decide (y3.2 < (p0.length : Int))) then
    bif y3.1 then
      some (.inl (true, (IntKind.wrap .i64 (y3.2 + 1))))
    else
      (idx p0 y3.2).bind fun x4 =>
      bif (x4.Kind == 5) then
        (idx p0 y3.2).bind fun x5 =>
        some (.inl ((x5.Unit == y2.2), (IntKind.wrap .i64 (y3.2 + 1))))
      else
        some (.inl (false, (IntKind.wrap .i64 (y3.2 + 1))))
  else
    some (.inr y3.1)
def r_Ended_l2 (fuel : Nat) (p0 : (List Note)) (y2 : (List Int) × Int) : Option (((List Int) × Int) ⊕ ((List Int))) :=
  bif (decide (y2.2 ≤ 1000)) then
    (iter (r_Ended_l1 fuel p0 y2) fuel (false, 0)).bind fun v7 =>
    bif v7 then
      chk (decide ((y2.1 ++ [y2.2]).length ≤ room)) <|
      some (.inl ((y2.1 ++ [y2.2]), (IntKind.wrap .i64 (y2.2 + 1))))
    else
      some (.inl (y2.1, (IntKind.wrap .i64 (y2.2 + 1))))
  else
    some (.inr y2.1)
def r_Ended (fuel : Nat) (p0 : (List Note)) : Option ((List Int) × Int) :=
  (r_right fuel p0).bind fun r1 =>
  bif (r1 != 0) then
    some (([] : List Int), r1)
  else
    (iter (r_Ended_l2 fuel p0) fuel (([] : List Int), 1)).bind fun v9 =>
    some (v9, 0)
theorem r_Ended_ok {fuel : Nat} {p0 : (List Note)} {r : (List Int) × Int} (h : r_Ended fuel p0 = some r) : PC Tryz.prog 12 [.d (.list 5 (List.map encNote p0))] (.tup [.own 1 (List.map (D.int .i64) r.1), vI r.2]) := by
  refine PC.of_SW Tryz.func12 rfl fun H => ?_
  unfold r_Ended at h
  refine SW.kp 48 H [0] [(0, .d (.list 5 (List.map encNote p0)))] (by kernel_rfl) <| SW.seq <| SW.regionK <| OWk.sg 48 H [] [0] 2 [(0, .d (.list 5 (List.map encNote p0)))] (by kernel_rfl) <| OWk.done (by kernel_rfl) <| thenS_n <| SW.seq <| SW.seq <| SW.regionK <| OWk.sg 48 H [] [0, 9] 1 [(0, .d (.list 5 (List.map encNote p0))), (9, .d (.list 5 (List.map encNote p0)))] (by kernel_rfl) ?_
  obtain ⟨r1, hr, h⟩ := bind_inv h
  refine OWk.cl 48 H (d := some 10) (ls := []) (gs := []) [] [0, 10] [(0, .d (.list 5 (List.map encNote p0))), (10, vI r1)] (r_right_ok hr) (by kernel_rfl) (by kernel_rfl) (by kernel_rfl) <| OWk.sg 48 H [] [0, 4] 1 [(0, .d (.list 5 (List.map encNote p0))), (4, vI r1)] (by kernel_rfl) <| OWk.done (by kernel_rfl) <| thenS_n <| SW.seq <| SW.regionK <| OWk.sg 48 H [] [0, 4, 12] 2 [(0, .d (.list 5 (List.map encNote p0))), (4, vI r1), (12, vB (r1 != 0))] (by kernel_rfl) <| OWk.done (by kernel_rfl) <| thenS_n ?_
  refine SW.condB (b := (r1 != 0)) (by kernel_rfl) (fun hc => ?_) (fun hc => ?_)
  · replace h := bif_t hc h
    refine SW.seq <| SW.regionK <| OWk.sg 48 H [] [2, 3] 3 [(2, .own 1 (List.map (D.int .i64) ([] : List Int))), (3, vI r1)] (by kernel_rfl) <| OWk.done (by kernel_rfl) <| thenS_n <| SW.ret <| thenS_r ?_
    cases h
    exact EndQ.ret [] (by kernel_rfl) rfl
  · replace h := bif_f hc h
    refine SW.skip <| thenS_n <| SW.seq <| SW.regionK <| OWk.sg 48 H [] [0, 5] 1 [(0, .d (.list 5 (List.map encNote p0))), (5, .own 1 (List.map (D.int .i64) ([] : List Int)))] (by kernel_rfl) <| OWk.done (by kernel_rfl) <| thenS_n <| SW.seq <| SW.seq <| SW.regionK <| OWk.sg 48 H [] [0, 5, 6] 1 [(0, .d (.list 5 (List.map encNote p0))), (5, .own 1 (List.map (D.int .i64) ([] : List Int))), (6, vI 1)] (by kernel_rfl) <| OWk.done (by kernel_rfl) <| thenS_n <| SW.block ?_
    obtain ⟨v9, hit, h⟩ := bind_inv h
    refine SW.it 48 H [0, 5, 6] (fun y2 => [(0, .d (.list 5 (List.map encNote p0))), (5, .own 1 (List.map (D.int .i64) y2.1)), (6, vI y2.2)]) (fun v9 e s => (e = .exit 0 ∧ s = (sp 48 [(5, .own 1 (List.map (D.int .i64) v9))] H))) hit (by kernel_rfl) (fun y2 o h => ?_) ?_
    · unfold r_Ended_l2 at h
      refine SW.seq <| SW.seq <| SW.regionK <| OWk.sg 48 H [] [0, 5, 6, 15] 2 [(0, .d (.list 5 (List.map encNote p0))), (5, .own 1 (List.map (D.int .i64) y2.1)), (6, vI y2.2), (15, vB (decide (y2.2 ≤ 1000)))] (by kernel_rfl) <| OWk.done (by kernel_rfl) <| thenS_n ?_
      refine SW.condB (b := (decide (y2.2 ≤ 1000))) (by kernel_rfl) (fun hc => ?_) (fun hc => ?_)
      · replace h := bif_t hc h
        refine SW.skip <| thenS_n <| SW.seq <| SW.block <| SW.seq <| SW.regionK <| OWk.sg 48 H [] [0, 5, 6, 7] 1 [(0, .d (.list 5 (List.map encNote p0))), (5, .own 1 (List.map (D.int .i64) y2.1)), (6, vI y2.2), (7, vB false)] (by kernel_rfl) <| OWk.done (by kernel_rfl) <| thenS_n <| SW.seq <| SW.seq <| SW.regionK <| OWk.sg 48 H [] [0, 5, 6, 7, 8] 1 [(0, .d (.list 5 (List.map encNote p0))), (5, .own 1 (List.map (D.int .i64) y2.1)), (6, vI y2.2), (7, vB false), (8, vI 0)] (by kernel_rfl) <| OWk.done (by kernel_rfl) <| thenS_n <| SW.block ?_
        obtain ⟨v7, hit, h⟩ := bind_inv h
        refine SW.it 48 H [0, 5, 6, 7, 8] (fun y3 => [(0, .d (.list 5 (List.map encNote p0))), (5, .own 1 (List.map (D.int .i64) y2.1)), (6, vI y2.2), (7, vB y3.1), (8, vI y3.2)]) (fun v7 e s => (e = .exit 2 ∧ s = (sp 48 [(0, .d (.list 5 (List.map encNote p0))), (5, .own 1 (List.map (D.int .i64) y2.1)), (6, vI y2.2), (7, vB v7)] H))) hit (by kernel_rfl) (fun y3 o h => ?_) ?_
        · unfold r_Ended_l1 at h
          refine SW.seq <| SW.seq <| SW.regionK <| OWk.sg 48 H [] [0, 5, 6, 7, 8, 18, 19] 2 [(0, .d (.list 5 (List.map encNote p0))), (5, .own 1 (List.map (D.int .i64) y2.1)), (6, vI y2.2), (7, vB y3.1), (8, vI y3.2), (18, vI y3.2), (19, .d (.list 5 (List.map encNote p0)))] (by kernel_rfl) <| OWk.on 48 H (d := some 20) [0, 5, 6, 7, 8, 18, 20] [(0, .d (.list 5 (List.map encNote p0))), (5, .own 1 (List.map (D.int .i64) y2.1)), (6, vI y2.2), (7, vB y3.1), (8, vI y3.2), (18, vI y3.2), (20, vI (p0.length : Int))] (BAt.len (enc := encNote) (xs := p0) (by kernel_rfl)) (by kernel_rfl) <| OWk.sg 48 H [] [0, 5, 6, 7, 8, 21] 1 [(0, .d (.list 5 (List.map encNote p0))), (5, .own 1 (List.map (D.int .i64) y2.1)), (6, vI y2.2), (7, vB y3.1), (8, vI y3.2), (21, vB (decide (y3.2 < (p0.length : Int))))] (by kernel_rfl) <| OWk.done (by kernel_rfl) <| thenS_n ?_
          refine SW.condB (b := (decide (y3.2 < (p0.length : Int)))) (by kernel_rfl) (fun hc => ?_) (fun hc => ?_)
          · replace h := bif_t hc h
            refine SW.skip <| thenS_n <| SW.seq <| SW.block <| SW.regionK <| OWk.sg 48 H [] [0, 5, 6, 8, 25] 2 [(0, .d (.list 5 (List.map encNote p0))), (5, .own 1 (List.map (D.int .i64) y2.1)), (6, vI y2.2), (8, vI y3.2), (25, vB y3.1)] (by kernel_rfl) ?_
            refine OWk.case y3.1 (fun b => (sp 48 [(0, .d (.list 5 (List.map encNote p0))), (5, .own 1 (List.map (D.int .i64) y2.1)), (6, vI y2.2), (8, vI y3.2), (25, vB b)] H)) (by kernel_rfl) (fun hc => ?_) (fun hc => ?_)
            · replace h := bif_t hc h
              refine OWk.sg 48 H [] [0, 5, 6, 7, 8] 17 [(0, .d (.list 5 (List.map encNote p0))), (5, .own 1 (List.map (D.int .i64) y2.1)), (6, vI y2.2), (7, vB true), (8, vI y3.2)] (by kernel_rfl) <| OWk.done (by kernel_rfl) <| blockS_n <| thenS_n <| SW.regionK <| OWk.sg 48 H [] [0, 5, 6, 7, 8] 3 [(0, .d (.list 5 (List.map encNote p0))), (5, .own 1 (List.map (D.int .i64) y2.1)), (6, vI y2.2), (7, vB true), (8, vI (IntKind.wrap .i64 (y3.2 + 1)))] (by kernel_rfl) <| OWk.done (by kernel_rfl) ?_
              cases h
              exact ⟨(true, (IntKind.wrap .i64 (y3.2 + 1))), rfl, by kernel_rfl⟩
            · replace h := bif_f hc h
              refine OWk.sg 48 H [] [0, 5, 6, 8, 25, 26, 27] 2 [(0, .d (.list 5 (List.map encNote p0))), (5, .own 1 (List.map (D.int .i64) y2.1)), (6, vI y2.2), (8, vI y3.2), (25, vB false), (26, .d (.list 5 (List.map encNote p0))), (27, vI y3.2)] (by kernel_rfl) ?_
              obtain ⟨x4, hx, h⟩ := bind_inv h
              refine OWk.on 48 H (d := some 28) (s := lendP none (Go.Sh.D.cells (encNote x4))) [0, 5, 6, 8, 25, 28] [(0, .d (.list 5 (List.map encNote p0))), (5, .own 1 (List.map (D.int .i64) y2.1)), (6, vI y2.2), (8, vI y3.2), (25, vB false), (28, .d (.dptr [.int .i64 x4.Kind, .int .i64 x4.Unit, .str x4.Key, .bool x4.Has, .str x4.Text]))] (BAt.index (n := 5) hx (by kernel_rfl)) (by kernel_rfl) <| OWk.sg 48 H [] [0, 5, 6, 8, 25, 32] 4 [(0, .d (.list 5 (List.map encNote p0))), (5, .own 1 (List.map (D.int .i64) y2.1)), (6, vI y2.2), (8, vI y3.2), (25, vB false), (32, vB (x4.Kind == 5))] (by kernel_rfl) ?_
              refine OWk.case (x4.Kind == 5) (fun b => (sp 48 [(0, .d (.list 5 (List.map encNote p0))), (5, .own 1 (List.map (D.int .i64) y2.1)), (6, vI y2.2), (8, vI y3.2), (25, vB false), (32, vB b)] H)) (by kernel_rfl) (fun hc => ?_) (fun hc => ?_)
              · replace h := bif_t hc h
                refine OWk.sg 48 H [] [0, 5, 6, 8, 25, 32, 33, 34] 2 [(0, .d (.list 5 (List.map encNote p0))), (5, .own 1 (List.map (D.int .i64) y2.1)), (6, vI y2.2), (8, vI y3.2), (25, vB false), (32, vB true), (33, .d (.list 5 (List.map encNote p0))), (34, vI y3.2)] (by kernel_rfl) ?_
                obtain ⟨x5, hx, h⟩ := bind_inv h
                refine OWk.on 48 H (d := some 35) (s := lendP none (Go.Sh.D.cells (encNote x5))) [0, 5, 6, 8, 25, 32, 35] [(0, .d (.list 5 (List.map encNote p0))), (5, .own 1 (List.map (D.int .i64) y2.1)), (6, vI y2.2), (8, vI y3.2), (25, vB false), (32, vB true), (35, .d (.dptr [.int .i64 x5.Kind, .int .i64 x5.Unit, .str x5.Key, .bool x5.Has, .str x5.Text]))] (BAt.index (n := 5) hx (by kernel_rfl)) (by kernel_rfl) <| OWk.sg 48 H [] [0, 5, 6, 7, 8] 7 [(0, .d (.list 5 (List.map encNote p0))), (5, .own 1 (List.map (D.int .i64) y2.1)), (6, vI y2.2), (7, vB (x5.Unit == y2.2)), (8, vI y3.2)] (by kernel_rfl) <| OWk.done (by kernel_rfl) <| blockS_n <| thenS_n <| SW.regionK <| OWk.sg 48 H [] [0, 5, 6, 7, 8] 3 [(0, .d (.list 5 (List.map encNote p0))), (5, .own 1 (List.map (D.int .i64) y2.1)), (6, vI y2.2), (7, vB (x5.Unit == y2.2)), (8, vI (IntKind.wrap .i64 (y3.2 + 1)))] (by kernel_rfl) <| OWk.done (by kernel_rfl) ?_
                cases h
                exact ⟨((x5.Unit == y2.2), (IntKind.wrap .i64 (y3.2 + 1))), rfl, by kernel_rfl⟩
              · replace h := bif_f hc h
                refine OWk.sg 48 H [] [0, 5, 6, 7, 8] 10 [(0, .d (.list 5 (List.map encNote p0))), (5, .own 1 (List.map (D.int .i64) y2.1)), (6, vI y2.2), (7, vB false), (8, vI y3.2)] (by kernel_rfl) <| OWk.done (by kernel_rfl) <| blockS_n <| thenS_n <| SW.regionK <| OWk.sg 48 H [] [0, 5, 6, 7, 8] 3 [(0, .d (.list 5 (List.map encNote p0))), (5, .own 1 (List.map (D.int .i64) y2.1)), (6, vI y2.2), (7, vB false), (8, vI (IntKind.wrap .i64 (y3.2 + 1)))] (by kernel_rfl) <| OWk.done (by kernel_rfl) ?_
                cases h
                exact ⟨(false, (IntKind.wrap .i64 (y3.2 + 1))), rfl, by kernel_rfl⟩
          · replace h := bif_f hc h
            refine SW.kp 48 H [0, 5, 6, 7] [(0, .d (.list 5 (List.map encNote p0))), (5, .own 1 (List.map (D.int .i64) y2.1)), (6, vI y2.2), (7, vB y3.1)] (by kernel_rfl) <| SW.exit <| thenS_e ?_
            cases h
            refine thenS_e ?_
            exact ⟨_, rfl, ⟨rfl, rfl⟩⟩
        · rintro _ _ ⟨rfl, rfl⟩
          refine blockS_hit <| thenS_n <| SW.seq <| SW.regionK <| OWk.sg 48 H [] [0, 5, 6, 42] 1 [(0, .d (.list 5 (List.map encNote p0))), (5, .own 1 (List.map (D.int .i64) y2.1)), (6, vI y2.2), (42, vB v7)] (by kernel_rfl) <| OWk.done (by kernel_rfl) <| thenS_n ?_
          refine SW.condB (b := v7) (by kernel_rfl) (fun hc => ?_) (fun hc => ?_)
          · replace h := bif_t hc h
            refine SW.regionK <| OWk.sg 48 H [43] [0, 6, 43, 45] 3 [(0, .d (.list 5 (List.map encNote p0))), (6, vI y2.2), (43, .own 1 (List.map (D.int .i64) y2.1)), (45, .own 1 (List.map (D.int .i64) [y2.2]))] (by kernel_rfl) ?_
            obtain ⟨hk, h⟩ := chk_inv h
            refine OWk.app 48 H (s := 43) (d := 46) (w := 1) [0, 6, 46] (zs := List.map (D.int .i64) (y2.1 ++ [y2.2])) [(0, .d (.list 5 (List.map encNote p0))), (6, vI y2.2), (46, .own 1 (List.map (D.int .i64) (y2.1 ++ [y2.2])))] (ys := (List.map (D.int .i64) [y2.2])) (by kernel_rfl) (map_append') (room_map hk) (by kernel_rfl) <| OWk.sg 48 H [43] [0, 5, 6] 1 [(0, .d (.list 5 (List.map encNote p0))), (5, .own 1 (List.map (D.int .i64) (y2.1 ++ [y2.2]))), (6, vI y2.2)] (by kernel_rfl) <| OWk.done (by kernel_rfl) <| blockS_n <| thenS_n <| SW.regionK <| OWk.sg 48 H [] [0, 5, 6] 3 [(0, .d (.list 5 (List.map encNote p0))), (5, .own 1 (List.map (D.int .i64) (y2.1 ++ [y2.2]))), (6, vI (IntKind.wrap .i64 (y2.2 + 1)))] (by kernel_rfl) <| OWk.done (by kernel_rfl) ?_
            cases h
            exact ⟨((y2.1 ++ [y2.2]), (IntKind.wrap .i64 (y2.2 + 1))), rfl, by kernel_rfl⟩
          · replace h := bif_f hc h
            refine SW.skip <| blockS_n <| thenS_n <| SW.regionK <| OWk.sg 48 H [] [0, 5, 6] 3 [(0, .d (.list 5 (List.map encNote p0))), (5, .own 1 (List.map (D.int .i64) y2.1)), (6, vI (IntKind.wrap .i64 (y2.2 + 1)))] (by kernel_rfl) <| OWk.done (by kernel_rfl) ?_
            cases h
            exact ⟨(y2.1, (IntKind.wrap .i64 (y2.2 + 1))), rfl, by kernel_rfl⟩
      · replace h := bif_f hc h
        refine SW.kp 48 H [5] [(5, .own 1 (List.map (D.int .i64) y2.1))] (by kernel_rfl) <| SW.exit <| thenS_e ?_
        cases h
        refine thenS_e ?_
        exact ⟨_, rfl, ⟨rfl, rfl⟩⟩
    · rintro _ _ ⟨rfl, rfl⟩
      refine blockS_hit <| thenS_n <| SW.seq <| SW.regionK <| OWk.sg 48 H [47] [2, 3] 3 [(2, .own 1 (List.map (D.int .i64) v9)), (3, vI 0)] (by kernel_rfl) <| OWk.done (by kernel_rfl) <| thenS_n <| SW.ret ?_
      cases h
      exact EndQ.ret [] (by kernel_rfl) rfl
noncomputable def j_asked (fuel : Nat) (p0 : (List Note)) (p1 : Int) : Option (Int × Int) :=
  (j_right fuel p0).bind fun r1 =>
  bif (r1 != 0) then
    some (0, r1)
  else
    (j_unit fuel p1).bind fun r2 =>
    bif (!r2) then
      some (0, 7)
    else
      (j_since fuel p0 p1).bind fun r3 =>
      bif (!r3.2) then
        some (0, 8)
      else
        some (r3.1, 0)
theorem j_asked_ok {fuel : Nat} {p0 : (List Note)} {p1 : Int} {r : Int × Int} (h : j_asked fuel p0 p1 = some r) : PC Tryz.prog 36 [.d (.list 5 (List.map encNote p0)), vI p1] (.tup [vI r.1, vI r.2]) := by
  refine PC.of_SW Tryz.func36 rfl fun H => ?_
  unfold j_asked at h
  refine SW.kp 26 H [0, 1] [(0, .d (.list 5 (List.map encNote p0))), (1, vI p1)] (by kernel_rfl) <| SW.seq <| SW.regionK <| OWk.sg 26 H [] [0, 1] 2 [(0, .d (.list 5 (List.map encNote p0))), (1, vI p1)] (by kernel_rfl) <| OWk.done (by kernel_rfl) <| thenS_n <| SW.seq <| SW.seq <| SW.regionK <| OWk.sg 26 H [] [0, 1, 9] 1 [(0, .d (.list 5 (List.map encNote p0))), (1, vI p1), (9, .d (.list 5 (List.map encNote p0)))] (by kernel_rfl) ?_
  obtain ⟨r1, hr, h⟩ := bind_inv h
  refine OWk.cl 26 H (d := some 10) (ls := []) (gs := []) [] [0, 1, 10] [(0, .d (.list 5 (List.map encNote p0))), (1, vI p1), (10, vI r1)] (j_right_ok hr) (by kernel_rfl) (by kernel_rfl) (by kernel_rfl) <| OWk.sg 26 H [] [0, 1, 6] 1 [(0, .d (.list 5 (List.map encNote p0))), (1, vI p1), (6, vI r1)] (by kernel_rfl) <| OWk.done (by kernel_rfl) <| thenS_n <| SW.seq <| SW.regionK <| OWk.sg 26 H [] [0, 1, 6, 12] 2 [(0, .d (.list 5 (List.map encNote p0))), (1, vI p1), (6, vI r1), (12, vB (r1 != 0))] (by kernel_rfl) <| OWk.done (by kernel_rfl) <| thenS_n ?_
  refine SW.condB (b := (r1 != 0)) (by kernel_rfl) (fun hc => ?_) (fun hc => ?_)
  · replace h := bif_t hc h
    refine SW.seq <| SW.regionK <| OWk.sg 26 H [] [4, 5] 3 [(4, vI 0), (5, vI r1)] (by kernel_rfl) <| OWk.done (by kernel_rfl) <| thenS_n <| SW.ret <| thenS_r ?_
    cases h
    exact EndQ.ret [] (by kernel_rfl) rfl
  · replace h := bif_f hc h
    refine SW.skip <| thenS_n <| SW.seq <| SW.seq <| SW.regionK <| OWk.sg 26 H [] [0, 1, 14] 1 [(0, .d (.list 5 (List.map encNote p0))), (1, vI p1), (14, vI p1)] (by kernel_rfl) ?_
    obtain ⟨r2, hr, h⟩ := bind_inv h
    refine OWk.cl 26 H (d := some 15) (ls := []) (gs := []) [] [0, 1, 15] [(0, .d (.list 5 (List.map encNote p0))), (1, vI p1), (15, vB r2)] (j_unit_ok hr) (by kernel_rfl) (by kernel_rfl) (by kernel_rfl) <| OWk.sg 26 H [] [0, 1, 16] 1 [(0, .d (.list 5 (List.map encNote p0))), (1, vI p1), (16, vB (!r2))] (by kernel_rfl) <| OWk.done (by kernel_rfl) <| thenS_n ?_
    refine SW.condB (b := (!r2)) (by kernel_rfl) (fun hc => ?_) (fun hc => ?_)
    · replace h := bif_t hc h
      refine SW.seq <| SW.regionK <| OWk.sg 26 H [] [4, 5] 2 [(4, vI 0), (5, vI 7)] (by kernel_rfl) <| OWk.done (by kernel_rfl) <| thenS_n <| SW.ret <| thenS_r ?_
      cases h
      exact EndQ.ret [] (by kernel_rfl) rfl
    · replace h := bif_f hc h
      refine SW.skip <| thenS_n <| SW.seq <| SW.regionK <| OWk.sg 26 H [] [18, 19] 2 [(18, .d (.list 5 (List.map encNote p0))), (19, vI p1)] (by kernel_rfl) ?_
      obtain ⟨r3, hr, h⟩ := bind_inv h
      refine OWk.cl 26 H (d := some 20) (ls := []) (gs := []) [] [20] [(20, .tup [vI r3.1, vB r3.2])] (j_since_ok hr) (by kernel_rfl) (by kernel_rfl) (by kernel_rfl) <| OWk.sg 26 H [] [7, 8] 5 [(7, vI r3.1), (8, vB r3.2)] (by kernel_rfl) <| OWk.done (by kernel_rfl) <| thenS_n <| SW.seq <| SW.seq <| SW.regionK <| OWk.sg 26 H [] [7, 24] 2 [(7, vI r3.1), (24, vB (!r3.2))] (by kernel_rfl) <| OWk.done (by kernel_rfl) <| thenS_n ?_
      refine SW.condB (b := (!r3.2)) (by kernel_rfl) (fun hc => ?_) (fun hc => ?_)
      · replace h := bif_t hc h
        refine SW.seq <| SW.regionK <| OWk.sg 26 H [] [4, 5] 2 [(4, vI 0), (5, vI 8)] (by kernel_rfl) <| OWk.done (by kernel_rfl) <| thenS_n <| SW.ret <| thenS_r ?_
        cases h
        exact EndQ.ret [] (by kernel_rfl) rfl
      · replace h := bif_f hc h
        refine SW.skip <| thenS_n <| SW.seq <| SW.regionK <| OWk.sg 26 H [] [4, 5] 3 [(4, vI r3.1), (5, vI 0)] (by kernel_rfl) <| OWk.done (by kernel_rfl) <| thenS_n <| SW.ret ?_
        cases h
        exact EndQ.ret [] (by kernel_rfl) rfl
noncomputable def j_Quiet (fuel : Nat) (p0 : (List Note)) (p1 : Int) : Option (Int × Int) :=
  (j_asked fuel p0 p1).bind fun r1 =>
  some (r1.1, r1.2)
theorem j_Quiet_ok {fuel : Nat} {p0 : (List Note)} {p1 : Int} {r : Int × Int} (h : j_Quiet fuel p0 p1 = some r) : PC Tryz.prog 13 [.d (.list 5 (List.map encNote p0)), vI p1] (.tup [vI r.1, vI r.2]) := by
  refine PC.of_SW Tryz.func13 rfl fun H => ?_
  unfold j_Quiet at h
  refine SW.kp 11 H [0, 1] [(0, .d (.list 5 (List.map encNote p0))), (1, vI p1)] (by kernel_rfl) <| SW.seq <| SW.regionK <| OWk.sg 11 H [] [0, 1] 2 [(0, .d (.list 5 (List.map encNote p0))), (1, vI p1)] (by kernel_rfl) <| OWk.done (by kernel_rfl) <| thenS_n <| SW.seq <| SW.regionK <| OWk.sg 11 H [] [6, 7] 2 [(6, .d (.list 5 (List.map encNote p0))), (7, vI p1)] (by kernel_rfl) ?_
  obtain ⟨r1, hr, h⟩ := bind_inv h
  refine OWk.cl 11 H (d := some 8) (ls := []) (gs := []) [] [8] [(8, .tup [vI r1.1, vI r1.2])] (j_asked_ok hr) (by kernel_rfl) (by kernel_rfl) (by kernel_rfl) <| OWk.sg 11 H [] [4, 5] 4 [(4, vI r1.1), (5, vI r1.2)] (by kernel_rfl) <| OWk.done (by kernel_rfl) <| thenS_n <| SW.ret ?_
  cases h
  exact EndQ.ret [] (by kernel_rfl) rfl
def r_QuietAt (fuel : Nat) (p0 : (List Note)) (p1 : Int) : Option (Int × Int) :=
  (r_right fuel p0).bind fun r1 =>
  bif (r1 != 0) then
    some (0, r1)
  else
    bif ((decide (p1 < 1)) || (decide (p1 > 1000))) then
      some (0, 7)
    else
      (r_since fuel p0 (p0.length : Int) p1).bind fun r2 =>
      bif (decide (r2 < 0)) then
        some (0, 8)
      else
        some (r2, 0)
theorem r_QuietAt_ok {fuel : Nat} {p0 : (List Note)} {p1 : Int} {r : Int × Int} (h : r_QuietAt fuel p0 p1 = some r) : PC Tryz.prog 14 [.d (.list 5 (List.map encNote p0)), vI p1] (.tup [vI r.1, vI r.2]) := by
  refine PC.of_SW Tryz.func14 rfl fun H => ?_
  unfold r_QuietAt at h
  refine SW.kp 27 H [0, 1] [(0, .d (.list 5 (List.map encNote p0))), (1, vI p1)] (by kernel_rfl) <| SW.seq <| SW.regionK <| OWk.sg 27 H [] [0, 1] 2 [(0, .d (.list 5 (List.map encNote p0))), (1, vI p1)] (by kernel_rfl) <| OWk.done (by kernel_rfl) <| thenS_n <| SW.seq <| SW.seq <| SW.regionK <| OWk.sg 27 H [] [0, 1, 8] 1 [(0, .d (.list 5 (List.map encNote p0))), (1, vI p1), (8, .d (.list 5 (List.map encNote p0)))] (by kernel_rfl) ?_
  obtain ⟨r1, hr, h⟩ := bind_inv h
  refine OWk.cl 27 H (d := some 9) (ls := []) (gs := []) [] [0, 1, 9] [(0, .d (.list 5 (List.map encNote p0))), (1, vI p1), (9, vI r1)] (r_right_ok hr) (by kernel_rfl) (by kernel_rfl) (by kernel_rfl) <| OWk.sg 27 H [] [0, 1, 6] 1 [(0, .d (.list 5 (List.map encNote p0))), (1, vI p1), (6, vI r1)] (by kernel_rfl) <| OWk.done (by kernel_rfl) <| thenS_n <| SW.seq <| SW.regionK <| OWk.sg 27 H [] [0, 1, 6, 11] 2 [(0, .d (.list 5 (List.map encNote p0))), (1, vI p1), (6, vI r1), (11, vB (r1 != 0))] (by kernel_rfl) <| OWk.done (by kernel_rfl) <| thenS_n ?_
  refine SW.condB (b := (r1 != 0)) (by kernel_rfl) (fun hc => ?_) (fun hc => ?_)
  · replace h := bif_t hc h
    refine SW.seq <| SW.regionK <| OWk.sg 27 H [] [4, 5] 3 [(4, vI 0), (5, vI r1)] (by kernel_rfl) <| OWk.done (by kernel_rfl) <| thenS_n <| SW.ret <| thenS_r ?_
    cases h
    exact EndQ.ret [] (by kernel_rfl) rfl
  · replace h := bif_f hc h
    refine SW.skip <| thenS_n <| SW.seq <| SW.seq <| SW.regionK <| OWk.sg 27 H [] [0, 1, 15] 3 [(0, .d (.list 5 (List.map encNote p0))), (1, vI p1), (15, vB (decide (p1 < 1)))] (by kernel_rfl) <| OWk.mg 27 H [0, 1, 18] 3 (decide (p1 < 1)) (fun b => (sp 27 [(0, .d (.list 5 (List.map encNote p0))), (1, vI p1), (15, vB b)] H)) (fun b => [(0, .d (.list 5 (List.map encNote p0))), (1, vI p1), (18, vB (b || (decide (p1 > 1000))))]) (by kernel_rfl) (by kernel_rfl) (by kernel_rfl) <| OWk.done (by kernel_rfl) <| thenS_n ?_
    refine SW.condB (b := ((decide (p1 < 1)) || (decide (p1 > 1000)))) (by kernel_rfl) (fun hc => ?_) (fun hc => ?_)
    · replace h := bif_t hc h
      refine SW.seq <| SW.regionK <| OWk.sg 27 H [] [4, 5] 2 [(4, vI 0), (5, vI 7)] (by kernel_rfl) <| OWk.done (by kernel_rfl) <| thenS_n <| SW.ret <| thenS_r ?_
      cases h
      exact EndQ.ret [] (by kernel_rfl) rfl
    · replace h := bif_f hc h
      refine SW.skip <| thenS_n <| SW.seq <| SW.regionK <| OWk.sg 27 H [] [1, 19, 20] 2 [(1, vI p1), (19, .d (.list 5 (List.map encNote p0))), (20, .d (.list 5 (List.map encNote p0)))] (by kernel_rfl) <| OWk.on 27 H (d := some 21) [1, 19, 21] [(1, vI p1), (19, .d (.list 5 (List.map encNote p0))), (21, vI (p0.length : Int))] (BAt.len (enc := encNote) (xs := p0) (by kernel_rfl)) (by kernel_rfl) <| OWk.sg 27 H [] [19, 21, 22] 1 [(19, .d (.list 5 (List.map encNote p0))), (21, vI (p0.length : Int)), (22, vI p1)] (by kernel_rfl) ?_
      obtain ⟨r2, hr, h⟩ := bind_inv h
      refine OWk.cl 27 H (d := some 23) (ls := []) (gs := []) [] [23] [(23, vI r2)] (r_since_ok hr) (by kernel_rfl) (by kernel_rfl) (by kernel_rfl) <| OWk.sg 27 H [] [7] 1 [(7, vI r2)] (by kernel_rfl) <| OWk.done (by kernel_rfl) <| thenS_n <| SW.seq <| SW.seq <| SW.regionK <| OWk.sg 27 H [] [7, 25] 2 [(7, vI r2), (25, vB (decide (r2 < 0)))] (by kernel_rfl) <| OWk.done (by kernel_rfl) <| thenS_n ?_
      refine SW.condB (b := (decide (r2 < 0))) (by kernel_rfl) (fun hc => ?_) (fun hc => ?_)
      · replace h := bif_t hc h
        refine SW.seq <| SW.regionK <| OWk.sg 27 H [] [4, 5] 2 [(4, vI 0), (5, vI 8)] (by kernel_rfl) <| OWk.done (by kernel_rfl) <| thenS_n <| SW.ret <| thenS_r ?_
        cases h
        exact EndQ.ret [] (by kernel_rfl) rfl
      · replace h := bif_f hc h
        refine SW.skip <| thenS_n <| SW.seq <| SW.regionK <| OWk.sg 27 H [] [4, 5] 3 [(4, vI r2), (5, vI 0)] (by kernel_rfl) <| OWk.done (by kernel_rfl) <| thenS_n <| SW.ret ?_
        cases h
        exact EndQ.ret [] (by kernel_rfl) rfl
def j_Undo_l1 (fuel : Nat) (p0 : (List Note)) (p1 : Int) (r1 : Int × Int) (q2 : (Hp × Nat)) (y3 : (List Image) × Int × Hp) : Option (((List Image) × Int × Hp) ⊕ ((List Image) × Hp)) :=
  bif (decide (y3.2.1 < ((sl p0 r1.1 (p0.length : Int)).length : Int))) then
    (idx (sl p0 r1.1 (p0.length : Int)) y3.2.1).bind fun x4 =>
    letJ (fun (j5 : Bool) =>
      bif j5 then
        (hMput kS cB y3.2.2 (some q2.2) x4.Key true).bind fun H8 =>
        chk (decide ((y3.1 ++ [(⟨x4.Key, x4.Has, x4.Text⟩ : Image)]).length ≤ room)) <|
        some (.inl ((y3.1 ++ [(⟨x4.Key, x4.Has, x4.Text⟩ : Image)]), (IntKind.wrap .i64 (y3.2.1 + 1)), H8))
      else
        some (.inl (y3.1, (IntKind.wrap .i64 (y3.2.1 + 1)), y3.2.2))) fun jp6 =>
    bif ((x4.Unit == p1) && (x4.Kind == 2)) then
      (hLook kS cB y3.2.2 (some q2.2) x4.Key).bind fun q7 =>
      jp6 (!(q7.getD false))
    else
      jp6 false
  else
    some (.inr (y3.1, y3.2.2))
noncomputable def j_Undo (fuel : Nat) (p0 : (List Note)) (p1 : Int) : Option ((List Image) × Int) :=
  (j_asked fuel p0 p1).bind fun r1 =>
  bif (r1.2 != 0) then
    some (([] : List Image), r1.2)
  else
    (hNew [] (.map [])).bind fun q2 =>
    chk (slOk p0 r1.1 (p0.length : Int)) <|
    (iter (j_Undo_l1 fuel p0 p1 r1 q2) fuel (([] : List Image), 0, q2.1)).bind fun v10 =>
    (slices_Reverse fuel v10.1).bind fun r11 =>
    some (r11, 0)
theorem j_Undo_ok {fuel : Nat} {p0 : (List Note)} {p1 : Int} {r : (List Image) × Int} (h : j_Undo fuel p0 p1 = some r) : PC Tryz.prog 37 [.d (.list 5 (List.map encNote p0)), vI p1] (.tup [.own 3 (List.map encImage r.1), vI r.2]) := by
  refine PC.of_localSW Tryz.func37 rfl (by simp [noPtrSV, noPtr, noPtrs, vI, vB, vS, noPtrs_map (f := encNote) encNote_np]) (by simp [noPtrSV, noPtr, noPtrs, vI, vB, vS, noPtrs_map (f := encImage) encImage_np]) ?_
  unfold j_Undo at h
  refine SW.kp 63 [] [0, 1] [(0, .d (.list 5 (List.map encNote p0))), (1, vI p1)] (by kernel_rfl) <| SW.seq <| SW.regionK <| OWk.sg 63 [] [] [0, 1] 2 [(0, .d (.list 5 (List.map encNote p0))), (1, vI p1)] (by kernel_rfl) <| OWk.done (by kernel_rfl) <| thenS_n <| SW.seq <| SW.regionK <| OWk.sg 63 [] [] [0, 1, 13, 14] 2 [(0, .d (.list 5 (List.map encNote p0))), (1, vI p1), (13, .d (.list 5 (List.map encNote p0))), (14, vI p1)] (by kernel_rfl) ?_
  obtain ⟨r1, hr, h⟩ := bind_inv h
  refine OWk.cl 63 [] (d := some 15) (ls := []) (gs := []) [] [0, 1, 15] [(0, .d (.list 5 (List.map encNote p0))), (1, vI p1), (15, .tup [vI r1.1, vI r1.2])] (j_asked_ok hr) (by kernel_rfl) (by kernel_rfl) (by kernel_rfl) <| OWk.sg 63 [] [] [0, 1, 6, 7] 5 [(0, .d (.list 5 (List.map encNote p0))), (1, vI p1), (6, vI r1.1), (7, vI r1.2)] (by kernel_rfl) <| OWk.done (by kernel_rfl) <| thenS_n <| SW.seq <| SW.seq <| SW.regionK <| OWk.sg 63 [] [] [0, 1, 6, 7, 19] 2 [(0, .d (.list 5 (List.map encNote p0))), (1, vI p1), (6, vI r1.1), (7, vI r1.2), (19, vB (r1.2 != 0))] (by kernel_rfl) <| OWk.done (by kernel_rfl) <| thenS_n ?_
  refine SW.condB (b := (r1.2 != 0)) (by kernel_rfl) (fun hc => ?_) (fun hc => ?_)
  · replace h := bif_t hc h
    refine SW.seq <| SW.regionK <| OWk.sg 63 [] [] [4, 5] 3 [(4, .own 3 (List.map encImage ([] : List Image))), (5, vI r1.2)] (by kernel_rfl) <| OWk.done (by kernel_rfl) <| thenS_n <| SW.ret <| thenS_r ?_
    cases h
    exact EndL.ret [] (by kernel_rfl)
  · replace h := bif_f hc h
    refine SW.skip <| thenS_n <| SW.seq <| SW.regionK <| OWk.sg 63 [] [] [0, 1, 6, 8] 1 [(0, .d (.list 5 (List.map encNote p0))), (1, vI p1), (6, vI r1.1), (8, .own 3 (List.map encImage ([] : List Image)))] (by kernel_rfl) <| OWk.done (by kernel_rfl) <| thenS_n <| SW.seq <| SW.regionK ?_
    obtain ⟨q2, hq, h⟩ := bind_inv h
    refine OWk.hnew 63 q2.1 (d := some 21) (b := true) [] [0, 1, 6, 8, 21] [(0, .d (.list 5 (List.map encNote p0))), (1, vI p1), (6, vI r1.1), (8, .own 3 (List.map encImage ([] : List Image))), (21, .d (.map q2.2))] hq (by kernel_rfl) rfl (by kernel_rfl) <| OWk.sg 63 q2.1 [] [0, 1, 6, 8, 9] 1 [(0, .d (.list 5 (List.map encNote p0))), (1, vI p1), (6, vI r1.1), (8, .own 3 (List.map encImage ([] : List Image))), (9, .d (.map q2.2))] (by kernel_rfl) <| OWk.done (by kernel_rfl) <| thenS_n <| SW.seq <| SW.seq <| SW.regionK <| OWk.sg 63 q2.1 [] [1, 8, 9, 22, 23] 2 [(1, vI p1), (8, .own 3 (List.map encImage ([] : List Image))), (9, .d (.map q2.2)), (22, .d (.list 5 (List.map encNote p0))), (23, vI r1.1)] (by kernel_rfl) ?_
    obtain ⟨hk, h⟩ := chk_inv h
    refine OWk.on 63 q2.1 (d := some 24) (s := lendL none 5 (List.map encNote (sl p0 r1.1 (p0.length : Int)))) [1, 8, 9, 24] [(1, vI p1), (8, .own 3 (List.map encImage ([] : List Image))), (9, .d (.map q2.2)), (24, .d (.list 5 (List.map encNote (sl p0 r1.1 (p0.length : Int)))))] (BAt.slice hk (by kernel_rfl)) (by kernel_rfl) <| OWk.on 63 q2.1 (d := some 25) [1, 8, 9, 24, 25] [(1, vI p1), (8, .own 3 (List.map encImage ([] : List Image))), (9, .d (.map q2.2)), (24, .d (.list 5 (List.map encNote (sl p0 r1.1 (p0.length : Int))))), (25, vI ((sl p0 r1.1 (p0.length : Int)).length : Int))] (BAt.len (enc := encNote) (xs := (sl p0 r1.1 (p0.length : Int))) (by kernel_rfl)) (by kernel_rfl) <| OWk.sg 63 q2.1 [] [1, 8, 9, 24, 25, 26] 1 [(1, vI p1), (8, .own 3 (List.map encImage ([] : List Image))), (9, .d (.map q2.2)), (24, .d (.list 5 (List.map encNote (sl p0 r1.1 (p0.length : Int))))), (25, vI ((sl p0 r1.1 (p0.length : Int)).length : Int)), (26, vI 0)] (by kernel_rfl) <| OWk.done (by kernel_rfl) <| thenS_n <| SW.block ?_
    obtain ⟨v10, hit, h⟩ := bind_inv h
    refine SW.itH 63 [1, 8, 9, 24, 25, 26] (fun y3 => [(1, vI p1), (8, .own 3 (List.map encImage y3.1)), (9, .d (.map q2.2)), (24, .d (.list 5 (List.map encNote (sl p0 r1.1 (p0.length : Int))))), (25, vI ((sl p0 r1.1 (p0.length : Int)).length : Int)), (26, vI y3.2.1)]) (fun y3 => y3.2.2) (fun v10 e s => (e = .exit 0 ∧ s = (sp 63 [(8, .own 3 (List.map encImage v10.1))] v10.2))) hit (by kernel_rfl) (fun y3 o h => ?_) ?_
    · unfold j_Undo_l1 at h
      refine SW.seq <| SW.regionK <| OWk.sg 63 y3.2.2 [] [1, 8, 9, 24, 25, 26, 27] 1 [(1, vI p1), (8, .own 3 (List.map encImage y3.1)), (9, .d (.map q2.2)), (24, .d (.list 5 (List.map encNote (sl p0 r1.1 (p0.length : Int))))), (25, vI ((sl p0 r1.1 (p0.length : Int)).length : Int)), (26, vI y3.2.1), (27, vB (decide (y3.2.1 < ((sl p0 r1.1 (p0.length : Int)).length : Int))))] (by kernel_rfl) <| OWk.done (by kernel_rfl) <| thenS_n <| SW.seq ?_
      refine SW.condB (b := (decide (y3.2.1 < ((sl p0 r1.1 (p0.length : Int)).length : Int)))) (by kernel_rfl) (fun hc => ?_) (fun hc => ?_)
      · replace h := bif_t hc h
        refine SW.skip <| thenS_n <| SW.seq <| SW.block <| SW.seq <| SW.regionK ?_
        obtain ⟨x4, hx, h⟩ := bind_inv h
        refine OWk.on 63 y3.2.2 (d := some 28) (s := lendP none (Go.Sh.D.cells (encNote x4))) [1, 8, 9, 24, 25, 26, 28] [(1, vI p1), (8, .own 3 (List.map encImage y3.1)), (9, .d (.map q2.2)), (24, .d (.list 5 (List.map encNote (sl p0 r1.1 (p0.length : Int))))), (25, vI ((sl p0 r1.1 (p0.length : Int)).length : Int)), (26, vI y3.2.1), (28, .d (.dptr [.int .i64 x4.Kind, .int .i64 x4.Unit, .str x4.Key, .bool x4.Has, .str x4.Text]))] (BAt.index (n := 5) hx (by kernel_rfl)) (by kernel_rfl) <| OWk.sg 63 y3.2.2 [] [1, 8, 9, 11, 24, 25, 26] 3 [(1, vI p1), (8, .own 3 (List.map encImage y3.1)), (9, .d (.map q2.2)), (11, .box [vI x4.Kind, vI x4.Unit, vS x4.Key, vB x4.Has, vS x4.Text]), (24, .d (.list 5 (List.map encNote (sl p0 r1.1 (p0.length : Int))))), (25, vI ((sl p0 r1.1 (p0.length : Int)).length : Int)), (26, vI y3.2.1)] (by kernel_rfl) <| OWk.done (by kernel_rfl) <| thenS_n ?_
        obtain ⟨jp6, hjjp6, h⟩ := letJ_inv h
        refine SW.jn 63 y3.2.2 [1, 8, 9, 11, 24, 25, 26, 45] (fun (j5 : Bool) => [(1, vI p1), (8, .own 3 (List.map encImage y3.1)), (9, .d (.map q2.2)), (11, .box [vI x4.Kind, vI x4.Unit, vS x4.Key, vB x4.Has, vS x4.Text]), (24, .d (.list 5 (List.map encNote (sl p0 r1.1 (p0.length : Int))))), (25, vI ((sl p0 r1.1 (p0.length : Int)).length : Int)), (26, vI y3.2.1), (45, vB j5)]) (fun v => jp6 v = some o) (fun j5 h => ?_) ?_
        · rw [hjjp6] at h
          refine SW.condB (b := j5) (by kernel_rfl) (fun hc => ?_) (fun hc => ?_)
          · replace h := bif_t hc h
            refine SW.seq <| SW.regionK <| OWk.sg 63 y3.2.2 [] [1, 8, 9, 11, 24, 25, 26, 46, 48] 3 [(1, vI p1), (8, .own 3 (List.map encImage y3.1)), (9, .d (.map q2.2)), (11, .box [vI x4.Kind, vI x4.Unit, vS x4.Key, vB x4.Has, vS x4.Text]), (24, .d (.list 5 (List.map encNote (sl p0 r1.1 (p0.length : Int))))), (25, vI ((sl p0 r1.1 (p0.length : Int)).length : Int)), (26, vI y3.2.1), (46, .d (.map q2.2)), (48, vS x4.Key)] (by kernel_rfl) ?_
            obtain ⟨H8, hx, h⟩ := bind_inv h
            refine OWk.mput 63 H8 (kc := kS) (v := cB) (mm := (some q2.2)) (key := x4.Key) (y := true) [1, 8, 9, 11, 24, 25, 26] [(1, vI p1), (8, .own 3 (List.map encImage y3.1)), (9, .d (.map q2.2)), (11, .box [vI x4.Kind, vI x4.Unit, vS x4.Key, vB x4.Has, vS x4.Text]), (24, .d (.list 5 (List.map encNote (sl p0 r1.1 (p0.length : Int))))), (25, vI ((sl p0 r1.1 (p0.length : Int)).length : Int)), (26, vI y3.2.1)] hx (by kernel_rfl) (by kernel_rfl) <| OWk.done (by kernel_rfl) <| thenS_n <| SW.regionK <| OWk.sg 63 H8 [49] [1, 9, 24, 25, 26, 49, 57] 9 [(1, vI p1), (9, .d (.map q2.2)), (24, .d (.list 5 (List.map encNote (sl p0 r1.1 (p0.length : Int))))), (25, vI ((sl p0 r1.1 (p0.length : Int)).length : Int)), (26, vI y3.2.1), (49, .own 3 (List.map encImage y3.1)), (57, .own 3 (List.map encImage [(⟨x4.Key, x4.Has, x4.Text⟩ : Image)]))] (by kernel_rfl) ?_
            obtain ⟨hk, h⟩ := chk_inv h
            refine OWk.app 63 H8 (s := 49) (d := 58) (w := 3) [1, 9, 24, 25, 26, 58] (zs := List.map encImage (y3.1 ++ [(⟨x4.Key, x4.Has, x4.Text⟩ : Image)])) [(1, vI p1), (9, .d (.map q2.2)), (24, .d (.list 5 (List.map encNote (sl p0 r1.1 (p0.length : Int))))), (25, vI ((sl p0 r1.1 (p0.length : Int)).length : Int)), (26, vI y3.2.1), (58, .own 3 (List.map encImage (y3.1 ++ [(⟨x4.Key, x4.Has, x4.Text⟩ : Image)])))] (ys := (List.map encImage [(⟨x4.Key, x4.Has, x4.Text⟩ : Image)])) (by kernel_rfl) (map_append') (room_map hk) (by kernel_rfl) <| OWk.sg 63 H8 [49] [1, 8, 9, 24, 25, 26] 1 [(1, vI p1), (8, .own 3 (List.map encImage (y3.1 ++ [(⟨x4.Key, x4.Has, x4.Text⟩ : Image)]))), (9, .d (.map q2.2)), (24, .d (.list 5 (List.map encNote (sl p0 r1.1 (p0.length : Int))))), (25, vI ((sl p0 r1.1 (p0.length : Int)).length : Int)), (26, vI y3.2.1)] (by kernel_rfl) <| OWk.done (by kernel_rfl) <| blockS_n <| thenS_n <| SW.regionK <| OWk.sg 63 H8 [] [1, 8, 9, 24, 25, 26] 2 [(1, vI p1), (8, .own 3 (List.map encImage (y3.1 ++ [(⟨x4.Key, x4.Has, x4.Text⟩ : Image)]))), (9, .d (.map q2.2)), (24, .d (.list 5 (List.map encNote (sl p0 r1.1 (p0.length : Int))))), (25, vI ((sl p0 r1.1 (p0.length : Int)).length : Int)), (26, vI (IntKind.wrap .i64 (y3.2.1 + 1)))] (by kernel_rfl) <| OWk.done (by kernel_rfl) ?_
            cases h
            exact ⟨((y3.1 ++ [(⟨x4.Key, x4.Has, x4.Text⟩ : Image)]), (IntKind.wrap .i64 (y3.2.1 + 1)), H8), rfl, by kernel_rfl⟩
          · replace h := bif_f hc h
            refine SW.skip <| blockS_n <| thenS_n <| SW.regionK <| OWk.sg 63 y3.2.2 [] [1, 8, 9, 24, 25, 26] 2 [(1, vI p1), (8, .own 3 (List.map encImage y3.1)), (9, .d (.map q2.2)), (24, .d (.list 5 (List.map encNote (sl p0 r1.1 (p0.length : Int))))), (25, vI ((sl p0 r1.1 (p0.length : Int)).length : Int)), (26, vI (IntKind.wrap .i64 (y3.2.1 + 1)))] (by kernel_rfl) <| OWk.done (by kernel_rfl) ?_
            cases h
            exact ⟨(y3.1, (IntKind.wrap .i64 (y3.2.1 + 1)), y3.2.2), rfl, by kernel_rfl⟩
        · refine SW.regionK <| OWk.sg 63 y3.2.2 [] [1, 8, 9, 11, 24, 25, 26, 34] 5 [(1, vI p1), (8, .own 3 (List.map encImage y3.1)), (9, .d (.map q2.2)), (11, .box [vI x4.Kind, vI x4.Unit, vS x4.Key, vB x4.Has, vS x4.Text]), (24, .d (.list 5 (List.map encNote (sl p0 r1.1 (p0.length : Int))))), (25, vI ((sl p0 r1.1 (p0.length : Int)).length : Int)), (26, vI y3.2.1), (34, vB (x4.Unit == p1))] (by kernel_rfl) <| OWk.mg 63 y3.2.2 [1, 8, 9, 11, 24, 25, 26, 38] 4 (x4.Unit == p1) (fun b => (sp 63 [(1, vI p1), (8, .own 3 (List.map encImage y3.1)), (9, .d (.map q2.2)), (11, .box [vI x4.Kind, vI x4.Unit, vS x4.Key, vB x4.Has, vS x4.Text]), (24, .d (.list 5 (List.map encNote (sl p0 r1.1 (p0.length : Int))))), (25, vI ((sl p0 r1.1 (p0.length : Int)).length : Int)), (26, vI y3.2.1), (34, vB b)] y3.2.2)) (fun b => [(1, vI p1), (8, .own 3 (List.map encImage y3.1)), (9, .d (.map q2.2)), (11, .box [vI x4.Kind, vI x4.Unit, vS x4.Key, vB x4.Has, vS x4.Text]), (24, .d (.list 5 (List.map encNote (sl p0 r1.1 (p0.length : Int))))), (25, vI ((sl p0 r1.1 (p0.length : Int)).length : Int)), (26, vI y3.2.1), (38, vB (b && (x4.Kind == 2)))]) (by kernel_rfl) (by kernel_rfl) (by kernel_rfl) <| OWk.sg 63 y3.2.2 [] [1, 8, 9, 11, 24, 25, 26, 39] 1 [(1, vI p1), (8, .own 3 (List.map encImage y3.1)), (9, .d (.map q2.2)), (11, .box [vI x4.Kind, vI x4.Unit, vS x4.Key, vB x4.Has, vS x4.Text]), (24, .d (.list 5 (List.map encNote (sl p0 r1.1 (p0.length : Int))))), (25, vI ((sl p0 r1.1 (p0.length : Int)).length : Int)), (26, vI y3.2.1), (39, vB ((x4.Unit == p1) && (x4.Kind == 2)))] (by kernel_rfl) ?_
          refine OWk.case ((x4.Unit == p1) && (x4.Kind == 2)) (fun b => (sp 63 [(1, vI p1), (8, .own 3 (List.map encImage y3.1)), (9, .d (.map q2.2)), (11, .box [vI x4.Kind, vI x4.Unit, vS x4.Key, vB x4.Has, vS x4.Text]), (24, .d (.list 5 (List.map encNote (sl p0 r1.1 (p0.length : Int))))), (25, vI ((sl p0 r1.1 (p0.length : Int)).length : Int)), (26, vI y3.2.1), (39, vB b)] y3.2.2)) (by kernel_rfl) (fun hc => ?_) (fun hc => ?_)
          · replace h := bif_t hc h
            refine OWk.sg 63 y3.2.2 [] [1, 8, 9, 11, 24, 25, 26, 39, 40, 42] 3 [(1, vI p1), (8, .own 3 (List.map encImage y3.1)), (9, .d (.map q2.2)), (11, .box [vI x4.Kind, vI x4.Unit, vS x4.Key, vB x4.Has, vS x4.Text]), (24, .d (.list 5 (List.map encNote (sl p0 r1.1 (p0.length : Int))))), (25, vI ((sl p0 r1.1 (p0.length : Int)).length : Int)), (26, vI y3.2.1), (39, vB true), (40, .d (.map q2.2)), (42, vS x4.Key)] (by kernel_rfl) ?_
            obtain ⟨q7, hq, h⟩ := bind_inv h
            refine OWk.on 63 y3.2.2 (d := some 43) [1, 8, 9, 11, 24, 25, 26, 39, 43] [(1, vI p1), (8, .own 3 (List.map encImage y3.1)), (9, .d (.map q2.2)), (11, .box [vI x4.Kind, vI x4.Unit, vS x4.Key, vB x4.Has, vS x4.Text]), (24, .d (.list 5 (List.map encNote (sl p0 r1.1 (p0.length : Int))))), (25, vI ((sl p0 r1.1 (p0.length : Int)).length : Int)), (26, vI y3.2.1), (39, vB true), (43, vB (q7.getD false))] (BAt.look (kc := kS) (v := cB) (ok := false) (mm := (some q2.2)) (key := x4.Key) (z := false) hq (by kernel_rfl)) (by kernel_rfl) <| OWk.sg 63 y3.2.2 [] [1, 8, 9, 11, 24, 25, 26, 45] 2 [(1, vI p1), (8, .own 3 (List.map encImage y3.1)), (9, .d (.map q2.2)), (11, .box [vI x4.Kind, vI x4.Unit, vS x4.Key, vB x4.Has, vS x4.Text]), (24, .d (.list 5 (List.map encNote (sl p0 r1.1 (p0.length : Int))))), (25, vI ((sl p0 r1.1 (p0.length : Int)).length : Int)), (26, vI y3.2.1), (45, vB (!(q7.getD false)))] (by kernel_rfl) <| OWk.done (by kernel_rfl) ?_
            exact ⟨(!(q7.getD false)), [], by kernel_rfl, h⟩
          · replace h := bif_f hc h
            refine OWk.sg 63 y3.2.2 [] [1, 8, 9, 11, 24, 25, 26, 45] 6 [(1, vI p1), (8, .own 3 (List.map encImage y3.1)), (9, .d (.map q2.2)), (11, .box [vI x4.Kind, vI x4.Unit, vS x4.Key, vB x4.Has, vS x4.Text]), (24, .d (.list 5 (List.map encNote (sl p0 r1.1 (p0.length : Int))))), (25, vI ((sl p0 r1.1 (p0.length : Int)).length : Int)), (26, vI y3.2.1), (45, vB false)] (by kernel_rfl) <| OWk.done (by kernel_rfl) ?_
            exact ⟨false, [], by kernel_rfl, h⟩
      · replace h := bif_f hc h
        refine SW.kp 63 y3.2.2 [8] [(8, .own 3 (List.map encImage y3.1))] (by kernel_rfl) <| SW.exit <| thenS_e ?_
        cases h
        refine thenS_e ?_
        exact ⟨_, rfl, ⟨rfl, rfl⟩⟩
    · rintro _ _ ⟨rfl, rfl⟩
      refine blockS_hit <| thenS_n <| SW.seq <| SW.regionK <| OWk.on 63 v10.2 (d := some 60) (s := .als 8) [8, 60] [(8, .own 3 (List.map encImage v10.1)), (60, .als 8)] (BAt.als (s := 8) (by kernel_rfl)) (by kernel_rfl) ?_
      obtain ⟨r11, hr, h⟩ := bind_inv h
      refine OWk.ic (s := 8) (p := none) (d := some 61) 63 v10.2 [8] [(8, .own 3 (List.map encImage r11))] (slices_Reverse_ok hr) (by kernel_rfl) (by kernel_rfl) <| OWk.done (by kernel_rfl) <| thenS_n <| SW.seq <| SW.regionK <| OWk.sg 63 v10.2 [62] [4, 5] 3 [(4, .own 3 (List.map encImage r11)), (5, vI 0)] (by kernel_rfl) <| OWk.done (by kernel_rfl) <| thenS_n <| SW.ret ?_
      cases h
      exact EndL.ret [] (by kernel_rfl)
theorem sortS_ok {fuel : Nat} {p0 r : (List (List UInt8))} (h : sortS fuel p0 = some r) : IC Tryz.prog 38 1 (List.map D.str p0) (List.map D.str r) := by
  unfold sortS at h
  split at h
  · rename_i hz
    cases h
    exact IC.of_sort encStr D.str (fun _ => rfl) (fun g w v x h => by cases h; rfl) (fun _ _ _ => .str) (fun _ => rfl) _ (fun l => List.length_mergeSort l) (fun blk off cap zs w hH hb hz => Tryz.slices_Sort_string blk off cap zs w hH hb hz) (fun p cap w => Tryz.slices_Sort_string_none p cap w) hz
  · cases h
def j_Keys_l1 (fuel : Nat) (r1 : (List Image) × Int) (y2 : (List (List UInt8)) × Int) : Option (((List (List UInt8)) × Int) ⊕ ((List (List UInt8)))) :=
  bif (decide (y2.2 < (r1.1.length : Int))) then
    (idx r1.1 y2.2).bind fun x3 =>
    chk (decide ((y2.1 ++ [x3.Key]).length ≤ room)) <|
    some (.inl ((y2.1 ++ [x3.Key]), (IntKind.wrap .i64 (y2.2 + 1))))
  else
    some (.inr y2.1)
noncomputable def j_Keys (fuel : Nat) (p0 : (List Note)) (p1 : Int) : Option ((List (List UInt8)) × Int) :=
  (j_Undo fuel p0 p1).bind fun r1 =>
  (iter (j_Keys_l1 fuel r1) fuel (([] : List (List UInt8)), 0)).bind fun v5 =>
  (sortS fuel v5).bind fun r6 =>
  some (r6, r1.2)
theorem j_Keys_ok {fuel : Nat} {p0 : (List Note)} {p1 : Int} {r : (List (List UInt8)) × Int} (h : j_Keys fuel p0 p1 = some r) : PC Tryz.prog 15 [.d (.list 5 (List.map encNote p0)), vI p1] (.tup [.own 1 (List.map D.str r.1), vI r.2]) := by
  refine PC.of_SW Tryz.func15 rfl fun H => ?_
  unfold j_Keys at h
  refine SW.kp 33 H [0, 1] [(0, .d (.list 5 (List.map encNote p0))), (1, vI p1)] (by kernel_rfl) <| SW.seq <| SW.regionK <| OWk.sg 33 H [] [0, 1] 2 [(0, .d (.list 5 (List.map encNote p0))), (1, vI p1)] (by kernel_rfl) <| OWk.done (by kernel_rfl) <| thenS_n <| SW.seq <| SW.regionK <| OWk.sg 33 H [] [12, 13] 2 [(12, .d (.list 5 (List.map encNote p0))), (13, vI p1)] (by kernel_rfl) ?_
  obtain ⟨r1, hr, h⟩ := bind_inv h
  refine OWk.cl 33 H (d := some 14) (ls := []) (gs := []) [] [14] [(14, .tup [.own 3 (List.map encImage r1.1), vI r1.2])] (j_Undo_ok hr) (by kernel_rfl) (by kernel_rfl) (by kernel_rfl) <| OWk.sg 33 H [] [6, 7] 5 [(6, .own 3 (List.map encImage r1.1)), (7, vI r1.2)] (by kernel_rfl) <| OWk.done (by kernel_rfl) <| thenS_n <| SW.seq <| SW.regionK <| OWk.sg 33 H [] [6, 7, 8] 1 [(6, .own 3 (List.map encImage r1.1)), (7, vI r1.2), (8, .own 1 (List.map D.str ([] : List (List UInt8))))] (by kernel_rfl) <| OWk.done (by kernel_rfl) <| thenS_n <| SW.seq <| SW.seq <| SW.regionK <| OWk.sg 33 H [17] [7, 8, 17] 1 [(7, vI r1.2), (8, .own 1 (List.map D.str ([] : List (List UInt8)))), (17, .own 3 (List.map encImage r1.1))] (by kernel_rfl) <| OWk.on 33 H (d := some 18) [7, 8, 17, 18] [(7, vI r1.2), (8, .own 1 (List.map D.str ([] : List (List UInt8)))), (17, .own 3 (List.map encImage r1.1)), (18, vI (r1.1.length : Int))] (BAt.len (enc := encImage) (xs := r1.1) (by kernel_rfl)) (by kernel_rfl) <| OWk.sg 33 H [17] [7, 8, 17, 18, 19] 1 [(7, vI r1.2), (8, .own 1 (List.map D.str ([] : List (List UInt8)))), (17, .own 3 (List.map encImage r1.1)), (18, vI (r1.1.length : Int)), (19, vI 0)] (by kernel_rfl) <| OWk.done (by kernel_rfl) <| thenS_n <| SW.block ?_
  obtain ⟨v5, hit, h⟩ := bind_inv h
  refine SW.it 33 H [7, 8, 17, 18, 19] (fun y2 => [(7, vI r1.2), (8, .own 1 (List.map D.str y2.1)), (17, .own 3 (List.map encImage r1.1)), (18, vI (r1.1.length : Int)), (19, vI y2.2)]) (fun v5 e s => (e = .exit 0 ∧ s = (sp 33 [(7, vI r1.2), (8, .own 1 (List.map D.str v5))] H))) hit (by kernel_rfl) (fun y2 o h => ?_) ?_
  · unfold j_Keys_l1 at h
    refine SW.seq <| SW.regionK <| OWk.sg 33 H [] [7, 8, 17, 18, 19, 20] 1 [(7, vI r1.2), (8, .own 1 (List.map D.str y2.1)), (17, .own 3 (List.map encImage r1.1)), (18, vI (r1.1.length : Int)), (19, vI y2.2), (20, vB (decide (y2.2 < (r1.1.length : Int))))] (by kernel_rfl) <| OWk.done (by kernel_rfl) <| thenS_n <| SW.seq ?_
    refine SW.condB (b := (decide (y2.2 < (r1.1.length : Int)))) (by kernel_rfl) (fun hc => ?_) (fun hc => ?_)
    · replace h := bif_t hc h
      refine SW.skip <| thenS_n <| SW.seq <| SW.block <| SW.seq <| SW.regionK ?_
      obtain ⟨x3, hx, h⟩ := bind_inv h
      refine OWk.on 33 H (d := some 21) (s := lendP (some (.slot 17)) (Go.Sh.D.cells (encImage x3))) [7, 8, 17, 18, 19, 21] [(7, vI r1.2), (8, .own 1 (List.map D.str y2.1)), (17, .own 3 (List.map encImage r1.1)), (18, vI (r1.1.length : Int)), (19, vI y2.2), (21, .lptr (.slot 17) [.str x3.Key, .bool x3.Has, .str x3.Text])] (BAt.index (n := 3) hx (by kernel_rfl)) (by kernel_rfl) <| OWk.sg 33 H [] [7, 8, 10, 17, 18, 19] 3 [(7, vI r1.2), (8, .own 1 (List.map D.str y2.1)), (10, .box [vS x3.Key, vB x3.Has, vS x3.Text]), (17, .own 3 (List.map encImage r1.1)), (18, vI (r1.1.length : Int)), (19, vI y2.2)] (by kernel_rfl) <| OWk.done (by kernel_rfl) <| thenS_n <| SW.regionK <| OWk.sg 33 H [23] [7, 17, 18, 19, 23, 26] 4 [(7, vI r1.2), (17, .own 3 (List.map encImage r1.1)), (18, vI (r1.1.length : Int)), (19, vI y2.2), (23, .own 1 (List.map D.str y2.1)), (26, .own 1 (List.map D.str [x3.Key]))] (by kernel_rfl) ?_
      obtain ⟨hk, h⟩ := chk_inv h
      refine OWk.app 33 H (s := 23) (d := 27) (w := 1) [7, 17, 18, 19, 27] (zs := List.map D.str (y2.1 ++ [x3.Key])) [(7, vI r1.2), (17, .own 3 (List.map encImage r1.1)), (18, vI (r1.1.length : Int)), (19, vI y2.2), (27, .own 1 (List.map D.str (y2.1 ++ [x3.Key])))] (ys := (List.map D.str [x3.Key])) (by kernel_rfl) (map_append') (room_map hk) (by kernel_rfl) <| OWk.sg 33 H [23] [7, 8, 17, 18, 19] 1 [(7, vI r1.2), (8, .own 1 (List.map D.str (y2.1 ++ [x3.Key]))), (17, .own 3 (List.map encImage r1.1)), (18, vI (r1.1.length : Int)), (19, vI y2.2)] (by kernel_rfl) <| OWk.done (by kernel_rfl) <| blockS_n <| thenS_n <| SW.regionK <| OWk.sg 33 H [] [7, 8, 17, 18, 19] 2 [(7, vI r1.2), (8, .own 1 (List.map D.str (y2.1 ++ [x3.Key]))), (17, .own 3 (List.map encImage r1.1)), (18, vI (r1.1.length : Int)), (19, vI (IntKind.wrap .i64 (y2.2 + 1)))] (by kernel_rfl) <| OWk.done (by kernel_rfl) ?_
      cases h
      exact ⟨((y2.1 ++ [x3.Key]), (IntKind.wrap .i64 (y2.2 + 1))), rfl, by kernel_rfl⟩
    · replace h := bif_f hc h
      refine SW.kp 33 H [7, 8] [(7, vI r1.2), (8, .own 1 (List.map D.str y2.1))] (by kernel_rfl) <| SW.exit <| thenS_e ?_
      cases h
      refine thenS_e ?_
      exact ⟨_, rfl, ⟨rfl, rfl⟩⟩
  · rintro _ _ ⟨rfl, rfl⟩
    refine blockS_hit <| thenS_n <| SW.seq <| SW.regionK <| OWk.on 33 H (d := some 29) (s := .als 8) [7, 8, 29] [(7, vI r1.2), (8, .own 1 (List.map D.str v5)), (29, .als 8)] (BAt.als (s := 8) (by kernel_rfl)) (by kernel_rfl) ?_
    obtain ⟨r6, hr, h⟩ := bind_inv h
    refine OWk.ic (s := 8) (p := none) (d := some 30) 33 H [7, 8] [(7, vI r1.2), (8, .own 1 (List.map D.str r6))] (sortS_ok hr) (by kernel_rfl) (by kernel_rfl) <| OWk.done (by kernel_rfl) <| thenS_n <| SW.seq <| SW.regionK <| OWk.sg 33 H [31] [4, 5] 4 [(4, .own 1 (List.map D.str r6)), (5, vI r1.2)] (by kernel_rfl) <| OWk.done (by kernel_rfl) <| thenS_n <| SW.ret ?_
    cases h
    exact EndQ.ret [] (by kernel_rfl) rfl
def r_Keys_l1 (fuel : Nat) (p0 : (List Note)) (y2 : (List (List UInt8)) × Int) (y7 : Int) : Option ((Int) ⊕ (Int)) :=
  bif (decide (y7 < (y2.1.length : Int))) then
    (idx y2.1 y7).bind fun x8 =>
    (idx p0 y2.2).bind fun x9 =>
    bif (Op.bytesLess x8 x9.Key) then
      some (.inl (IntKind.wrap .i64 (y7 + 1)))
    else
      some (.inr y7)
  else
    some (.inr y7)
def r_Keys_l2 (fuel : Nat) (p0 : (List Note)) (p1 : Int) (y2 : (List (List UInt8)) × Int) : Option (((List (List UInt8)) × Int) ⊕ ((List (List UInt8)))) :=
  bif (decide (y2.2 < (p0.length : Int))) then
    letJ (fun (j3 : Bool) =>
      bif j3 then
        some (.inl (y2.1, (IntKind.wrap .i64 (y2.2 + 1))))
      else
        (iter (r_Keys_l1 fuel p0 y2) fuel 0).bind fun v11 =>
        letJ (fun (j12 : Bool) =>
          bif j12 then
            (idx p0 y2.2).bind fun x16 =>
            chk (slOk y2.1 0 v11) <|
            chk (decide ((([] : List (List UInt8)) ++ (sl y2.1 0 v11)).length ≤ room)) <|
            chk (decide (((([] : List (List UInt8)) ++ (sl y2.1 0 v11)) ++ [x16.Key]).length ≤ room)) <|
            chk (slOk y2.1 v11 (y2.1.length : Int)) <|
            chk (decide ((((([] : List (List UInt8)) ++ (sl y2.1 0 v11)) ++ [x16.Key]) ++ (sl y2.1 v11 (y2.1.length : Int))).length ≤ room)) <|
            some (.inl ((((([] : List (List UInt8)) ++ (sl y2.1 0 v11)) ++ [x16.Key]) ++ (sl y2.1 v11 (y2.1.length : Int))), (IntKind.wrap .i64 (y2.2 + 1))))
          else
            some (.inl (y2.1, (IntKind.wrap .i64 (y2.2 + 1))))) fun jp13 =>
        bif (v11 == (y2.1.length : Int)) then
          jp13 true
        else
          (idx y2.1 v11).bind fun x14 =>
          (idx p0 y2.2).bind fun x15 =>
          jp13 (!(x14 == x15.Key))) fun jp4 =>
    (idx p0 y2.2).bind fun x5 =>
    bif (x5.Unit != p1) then
      jp4 true
    else
      (idx p0 y2.2).bind fun x6 =>
      jp4 (x6.Key == [])
  else
    some (.inr y2.1)
def r_Keys (fuel : Nat) (p0 : (List Note)) (p1 : Int) : Option ((List (List UInt8)) × Int) :=
  (r_QuietAt fuel p0 p1).bind fun r1 =>
  bif (r1.2 != 0) then
    some (([] : List (List UInt8)), r1.2)
  else
    (iter (r_Keys_l2 fuel p0 p1) fuel (([] : List (List UInt8)), (IntKind.wrap .i64 (r1.1 + 1)))).bind fun v23 =>
    some (v23, 0)
theorem r_Keys_ok {fuel : Nat} {p0 : (List Note)} {p1 : Int} {r : (List (List UInt8)) × Int} (h : r_Keys fuel p0 p1 = some r) : PC Tryz.prog 16 [.d (.list 5 (List.map encNote p0)), vI p1] (.tup [.own 1 (List.map D.str r.1), vI r.2]) := by
  refine PC.of_SW Tryz.func16 rfl fun H => ?_
  unfold r_Keys at h
  refine SW.kp 94 H [0, 1] [(0, .d (.list 5 (List.map encNote p0))), (1, vI p1)] (by kernel_rfl) <| SW.seq <| SW.regionK <| OWk.sg 94 H [] [0, 1] 2 [(0, .d (.list 5 (List.map encNote p0))), (1, vI p1)] (by kernel_rfl) <| OWk.done (by kernel_rfl) <| thenS_n <| SW.seq <| SW.regionK <| OWk.sg 94 H [] [0, 1, 12, 13] 2 [(0, .d (.list 5 (List.map encNote p0))), (1, vI p1), (12, .d (.list 5 (List.map encNote p0))), (13, vI p1)] (by kernel_rfl) ?_
  obtain ⟨r1, hr, h⟩ := bind_inv h
  refine OWk.cl 94 H (d := some 14) (ls := []) (gs := []) [] [0, 1, 14] [(0, .d (.list 5 (List.map encNote p0))), (1, vI p1), (14, .tup [vI r1.1, vI r1.2])] (r_QuietAt_ok hr) (by kernel_rfl) (by kernel_rfl) (by kernel_rfl) <| OWk.sg 94 H [] [0, 1, 6, 7] 5 [(0, .d (.list 5 (List.map encNote p0))), (1, vI p1), (6, vI r1.1), (7, vI r1.2)] (by kernel_rfl) <| OWk.done (by kernel_rfl) <| thenS_n <| SW.seq <| SW.seq <| SW.regionK <| OWk.sg 94 H [] [0, 1, 6, 7, 18] 2 [(0, .d (.list 5 (List.map encNote p0))), (1, vI p1), (6, vI r1.1), (7, vI r1.2), (18, vB (r1.2 != 0))] (by kernel_rfl) <| OWk.done (by kernel_rfl) <| thenS_n ?_
  refine SW.condB (b := (r1.2 != 0)) (by kernel_rfl) (fun hc => ?_) (fun hc => ?_)
  · replace h := bif_t hc h
    refine SW.seq <| SW.regionK <| OWk.sg 94 H [] [4, 5] 3 [(4, .own 1 (List.map D.str ([] : List (List UInt8)))), (5, vI r1.2)] (by kernel_rfl) <| OWk.done (by kernel_rfl) <| thenS_n <| SW.ret <| thenS_r ?_
    cases h
    exact EndQ.ret [] (by kernel_rfl) rfl
  · replace h := bif_f hc h
    refine SW.skip <| thenS_n <| SW.seq <| SW.regionK <| OWk.sg 94 H [] [0, 1, 6, 8] 1 [(0, .d (.list 5 (List.map encNote p0))), (1, vI p1), (6, vI r1.1), (8, .own 1 (List.map D.str ([] : List (List UInt8))))] (by kernel_rfl) <| OWk.done (by kernel_rfl) <| thenS_n <| SW.seq <| SW.seq <| SW.regionK <| OWk.sg 94 H [] [0, 1, 8, 9] 3 [(0, .d (.list 5 (List.map encNote p0))), (1, vI p1), (8, .own 1 (List.map D.str ([] : List (List UInt8)))), (9, vI (IntKind.wrap .i64 (r1.1 + 1)))] (by kernel_rfl) <| OWk.done (by kernel_rfl) <| thenS_n <| SW.block ?_
    obtain ⟨v23, hit, h⟩ := bind_inv h
    refine SW.it 94 H [0, 1, 8, 9] (fun y2 => [(0, .d (.list 5 (List.map encNote p0))), (1, vI p1), (8, .own 1 (List.map D.str y2.1)), (9, vI y2.2)]) (fun v23 e s => (e = .exit 0 ∧ s = (sp 94 [(8, .own 1 (List.map D.str v23))] H))) hit (by kernel_rfl) (fun y2 o h => ?_) ?_
    · unfold r_Keys_l2 at h
      refine SW.seq <| SW.seq <| SW.regionK <| OWk.sg 94 H [] [0, 1, 8, 9, 22, 23] 2 [(0, .d (.list 5 (List.map encNote p0))), (1, vI p1), (8, .own 1 (List.map D.str y2.1)), (9, vI y2.2), (22, vI y2.2), (23, .d (.list 5 (List.map encNote p0)))] (by kernel_rfl) <| OWk.on 94 H (d := some 24) [0, 1, 8, 9, 22, 24] [(0, .d (.list 5 (List.map encNote p0))), (1, vI p1), (8, .own 1 (List.map D.str y2.1)), (9, vI y2.2), (22, vI y2.2), (24, vI (p0.length : Int))] (BAt.len (enc := encNote) (xs := p0) (by kernel_rfl)) (by kernel_rfl) <| OWk.sg 94 H [] [0, 1, 8, 9, 25] 1 [(0, .d (.list 5 (List.map encNote p0))), (1, vI p1), (8, .own 1 (List.map D.str y2.1)), (9, vI y2.2), (25, vB (decide (y2.2 < (p0.length : Int))))] (by kernel_rfl) <| OWk.done (by kernel_rfl) <| thenS_n ?_
      refine SW.condB (b := (decide (y2.2 < (p0.length : Int)))) (by kernel_rfl) (fun hc => ?_) (fun hc => ?_)
      · replace h := bif_t hc h
        refine SW.skip <| thenS_n <| SW.seq <| SW.block <| SW.seq ?_
        obtain ⟨jp4, hjjp4, h⟩ := letJ_inv h
        refine SW.jn 94 H [0, 1, 8, 9, 42] (fun (j3 : Bool) => [(0, .d (.list 5 (List.map encNote p0))), (1, vI p1), (8, .own 1 (List.map D.str y2.1)), (9, vI y2.2), (42, vB j3)]) (fun v => jp4 v = some o) (fun j3 h => ?_) ?_
        · rw [hjjp4] at h
          refine SW.condB (b := j3) (by kernel_rfl) (fun hc => ?_) (fun hc => ?_)
          · replace h := bif_t hc h
            refine SW.exit <| thenS_e <| blockS_hit <| thenS_n <| SW.regionK <| OWk.sg 94 H [] [0, 1, 8, 9] 3 [(0, .d (.list 5 (List.map encNote p0))), (1, vI p1), (8, .own 1 (List.map D.str y2.1)), (9, vI (IntKind.wrap .i64 (y2.2 + 1)))] (by kernel_rfl) <| OWk.done (by kernel_rfl) ?_
            cases h
            exact ⟨(y2.1, (IntKind.wrap .i64 (y2.2 + 1))), rfl, by kernel_rfl⟩
          · replace h := bif_f hc h
            refine SW.skip <| thenS_n <| SW.seq <| SW.regionK <| OWk.sg 94 H [] [0, 1, 8, 9, 10] 1 [(0, .d (.list 5 (List.map encNote p0))), (1, vI p1), (8, .own 1 (List.map D.str y2.1)), (9, vI y2.2), (10, vI 0)] (by kernel_rfl) <| OWk.done (by kernel_rfl) <| thenS_n <| SW.seq <| SW.block ?_
            obtain ⟨v11, hit, h⟩ := bind_inv h
            refine SW.it 94 H [0, 1, 8, 9, 10] (fun y7 => [(0, .d (.list 5 (List.map encNote p0))), (1, vI p1), (8, .own 1 (List.map D.str y2.1)), (9, vI y2.2), (10, vI y7)]) (fun v11 e s => (e = .exit 2 ∧ s = (sp 94 [(0, .d (.list 5 (List.map encNote p0))), (1, vI p1), (8, .own 1 (List.map D.str y2.1)), (9, vI y2.2), (10, vI v11)] H))) hit (by kernel_rfl) (fun y7 o h => ?_) ?_
            · unfold r_Keys_l1 at h
              refine SW.seq <| SW.seq <| SW.regionDk (by kernel_rfl) (by kernel_rfl) <| OBk.sg 94 H [] [0, 1, 8, 9, 10, 43, 44] 2 [(0, .d (.list 5 (List.map encNote p0))), (1, vI p1), (8, .own 1 (List.map D.str y2.1)), (9, vI y2.2), (10, vI y7), (43, vI y7), (44, .lent (.slot 8) 1 (List.map D.str y2.1))] (by kernel_rfl) (by kernel_rfl) <| OBk.on 94 H (d := some 45) [0, 1, 8, 9, 10, 43, 45] [(0, .d (.list 5 (List.map encNote p0))), (1, vI p1), (8, .own 1 (List.map D.str y2.1)), (9, vI y2.2), (10, vI y7), (43, vI y7), (45, vI (y2.1.length : Int))] (by kernel_rfl) (BAt.len (enc := D.str) (xs := y2.1) (by kernel_rfl)) (by kernel_rfl) <| OBk.sg 94 H [] [0, 1, 8, 9, 10, 47] 2 [(0, .d (.list 5 (List.map encNote p0))), (1, vI p1), (8, .own 1 (List.map D.str y2.1)), (9, vI y2.2), (10, vI y7), (47, vB (decide (y7 < (y2.1.length : Int))))] (by kernel_rfl) (by kernel_rfl) ?_
              refine OBk.case (decide (y7 < (y2.1.length : Int))) (fun b => (sp 94 [(0, .d (.list 5 (List.map encNote p0))), (1, vI p1), (8, .own 1 (List.map D.str y2.1)), (9, vI y2.2), (10, vI y7), (47, vB b)] H)) (by kernel_rfl) (fun hc => ?_) (fun hc => ?_)
              · replace h := bif_t hc h
                refine OBk.sg 94 H [] [0, 1, 8, 9, 10, 47, 48, 49] 2 [(0, .d (.list 5 (List.map encNote p0))), (1, vI p1), (8, .own 1 (List.map D.str y2.1)), (9, vI y2.2), (10, vI y7), (47, vB true), (48, .lent (.slot 8) 1 (List.map D.str y2.1)), (49, vI y7)] (by kernel_rfl) (by kernel_rfl) ?_
                obtain ⟨x8, hx, h⟩ := bind_inv h
                refine OBk.on 94 H (d := some 50) (s := lendP (some (.slot 8)) (Go.Sh.D.cells (D.str x8))) [0, 1, 8, 9, 10, 47, 50] [(0, .d (.list 5 (List.map encNote p0))), (1, vI p1), (8, .own 1 (List.map D.str y2.1)), (9, vI y2.2), (10, vI y7), (47, vB true), (50, .lptr (.slot 8) [.str x8])] (by kernel_rfl) (BAt.index (n := 1) hx (by kernel_rfl)) (by kernel_rfl) <| OBk.sg 94 H [] [0, 1, 8, 9, 10, 47, 51, 52, 53] 3 [(0, .d (.list 5 (List.map encNote p0))), (1, vI p1), (8, .own 1 (List.map D.str y2.1)), (9, vI y2.2), (10, vI y7), (47, vB true), (51, vS x8), (52, .d (.list 5 (List.map encNote p0))), (53, vI y2.2)] (by kernel_rfl) (by kernel_rfl) ?_
                obtain ⟨x9, hx, h⟩ := bind_inv h
                refine OBk.on 94 H (d := some 54) (s := lendP none (Go.Sh.D.cells (encNote x9))) [0, 1, 8, 9, 10, 47, 51, 54] [(0, .d (.list 5 (List.map encNote p0))), (1, vI p1), (8, .own 1 (List.map D.str y2.1)), (9, vI y2.2), (10, vI y7), (47, vB true), (51, vS x8), (54, .d (.dptr [.int .i64 x9.Kind, .int .i64 x9.Unit, .str x9.Key, .bool x9.Has, .str x9.Text]))] (by kernel_rfl) (BAt.index (n := 5) hx (by kernel_rfl)) (by kernel_rfl) <| OBk.sg 94 H [] [0, 1, 8, 9, 10, 58] 4 [(0, .d (.list 5 (List.map encNote p0))), (1, vI p1), (8, .own 1 (List.map D.str y2.1)), (9, vI y2.2), (10, vI y7), (58, vB (Op.bytesLess x8 x9.Key))] (by kernel_rfl) (by kernel_rfl) <| OBk.done (by kernel_rfl) <| thenS_n ?_
                refine SW.condB (b := (Op.bytesLess x8 x9.Key)) (by kernel_rfl) (fun hc => ?_) (fun hc => ?_)
                · replace h := bif_t hc h
                  refine SW.skip <| thenS_n <| SW.block <| SW.regionK <| OWk.sg 94 H [] [0, 1, 8, 9, 10] 3 [(0, .d (.list 5 (List.map encNote p0))), (1, vI p1), (8, .own 1 (List.map D.str y2.1)), (9, vI y2.2), (10, vI (IntKind.wrap .i64 (y7 + 1)))] (by kernel_rfl) <| OWk.done (by kernel_rfl) <| blockS_n ?_
                  cases h
                  exact ⟨(IntKind.wrap .i64 (y7 + 1)), rfl, by kernel_rfl⟩
                · replace h := bif_f hc h
                  refine SW.kp 94 H [0, 1, 8, 9, 10] [(0, .d (.list 5 (List.map encNote p0))), (1, vI p1), (8, .own 1 (List.map D.str y2.1)), (9, vI y2.2), (10, vI y7)] (by kernel_rfl) <| SW.exit <| thenS_e ?_
                  cases h
                  refine thenS_e ?_
                  exact ⟨_, rfl, ⟨rfl, rfl⟩⟩
              · replace h := bif_f hc h
                refine OBk.sg 94 H [] [0, 1, 8, 9, 10, 58] 11 [(0, .d (.list 5 (List.map encNote p0))), (1, vI p1), (8, .own 1 (List.map D.str y2.1)), (9, vI y2.2), (10, vI y7), (58, vB false)] (by kernel_rfl) (by kernel_rfl) <| OBk.done (by kernel_rfl) <| thenS_n <| SW.condF (by kernel_rfl) <| SW.kp 94 H [0, 1, 8, 9, 10] [(0, .d (.list 5 (List.map encNote p0))), (1, vI p1), (8, .own 1 (List.map D.str y2.1)), (9, vI y2.2), (10, vI y7)] (by kernel_rfl) <| SW.exit <| thenS_e ?_
                cases h
                refine thenS_e ?_
                exact ⟨_, rfl, ⟨rfl, rfl⟩⟩
            · rintro _ _ ⟨rfl, rfl⟩
              refine blockS_hit <| thenS_n ?_
              obtain ⟨jp13, hjjp13, h⟩ := letJ_inv h
              refine SW.jn 94 H [0, 1, 8, 9, 10, 76] (fun (j12 : Bool) => [(0, .d (.list 5 (List.map encNote p0))), (1, vI p1), (8, .own 1 (List.map D.str y2.1)), (9, vI y2.2), (10, vI v11), (76, vB j12)]) (fun v => jp13 v = some o) (fun j12 h => ?_) ?_
              · rw [hjjp13] at h
                refine SW.condB (b := j12) (by kernel_rfl) (fun hc => ?_) (fun hc => ?_)
                · replace h := bif_t hc h
                  obtain ⟨x16, hx16, h⟩ := bind_inv h
                  obtain ⟨hk17, h⟩ := chk_inv h
                  obtain ⟨hk18, h⟩ := chk_inv h
                  obtain ⟨hk19, h⟩ := chk_inv h
                  obtain ⟨hk20, h⟩ := chk_inv h
                  obtain ⟨hk21, h⟩ := chk_inv h
                  refine SW.kp 94 H [0, 1, 8, 9, 10] [(0, .d (.list 5 (List.map encNote p0))), (1, vI p1), (8, .own 1 (List.map D.str y2.1)), (9, vI y2.2), (10, vI v11)] (by kernel_rfl) ?_
                  refine SW.regXP 94 H [(0, .d (.list 5 (List.map encNote p0))), (1, vI p1), (8, .own 1 (List.map D.str (((([] : List (List UInt8)) ++ (sl y2.1 0 v11)) ++ [x16.Key]) ++ (sl y2.1 v11 (y2.1.length : Int))))), (9, vI y2.2)] [2, 5, 6, 7, 8, 13] 11 8676 (by kernel_rfl) (by kernel_rfl) (by kernel_rfl) (fun X hX => ?_) ?_
                  · have c131071 : X 0 131071 (sp 94 [(0, .d (.list 5 (List.map encNote p0))), (1, vI p1), (8, .own 1 (List.map D.str (((([] : List (List UInt8)) ++ (sl y2.1 0 v11)) ++ [x16.Key]) ++ (sl y2.1 v11 (y2.1.length : Int))))), (9, vI y2.2)] H) := by subst hX; exact OX.fin (by kernel_rfl)
                    have c65535 : X 1 65535 (sp 94 [(0, .d (.list 5 (List.map encNote p0))), (1, vI p1), (9, vI y2.2), (92, .own 1 (List.map D.str (((([] : List (List UInt8)) ++ (sl y2.1 0 v11)) ++ [x16.Key]) ++ (sl y2.1 v11 (y2.1.length : Int)))))] H) := by
                      subst hX
                      refine OX.step (i0 := 16) (is := []) (by kernel_rfl) (by kernel_rfl) ⟨?_, trivial⟩
                      · refine OWk.sg 94 H [77, 81, 88] [0, 1, 8, 9] 1 [(0, .d (.list 5 (List.map encNote p0))), (1, vI p1), (8, .own 1 (List.map D.str (((([] : List (List UInt8)) ++ (sl y2.1 0 v11)) ++ [x16.Key]) ++ (sl y2.1 v11 (y2.1.length : Int))))), (9, vI y2.2)] (by kernel_rfl) <| OWk.done (by kernel_rfl) ?_
                        exact c131071
                    have c32767 : X 2 32767 (sp 94 [(0, .d (.list 5 (List.map encNote p0))), (1, vI p1), (9, vI y2.2), (88, .own 1 (List.map D.str ((([] : List (List UInt8)) ++ (sl y2.1 0 v11)) ++ [x16.Key]))), (91, .lent (.slot 8) 1 (List.map D.str (sl y2.1 v11 (y2.1.length : Int))))] H) := by
                      subst hX
                      refine OX.step (i0 := 15) (is := []) (by kernel_rfl) (by kernel_rfl) ⟨?_, trivial⟩
                      · refine OWk.app 94 H (s := 88) (d := 92) (w := 1) [0, 1, 9, 92] (zs := List.map D.str (((([] : List (List UInt8)) ++ (sl y2.1 0 v11)) ++ [x16.Key]) ++ (sl y2.1 v11 (y2.1.length : Int)))) [(0, .d (.list 5 (List.map encNote p0))), (1, vI p1), (9, vI y2.2), (92, .own 1 (List.map D.str (((([] : List (List UInt8)) ++ (sl y2.1 0 v11)) ++ [x16.Key]) ++ (sl y2.1 v11 (y2.1.length : Int)))))] (ys := (List.map D.str (sl y2.1 v11 (y2.1.length : Int)))) (by kernel_rfl) (map_append') (room_map hk21) (by kernel_rfl) <| OWk.done (by kernel_rfl) ?_
                        exact c65535
                    have c16383 : X 3 16383 (sp 94 [(0, .d (.list 5 (List.map encNote p0))), (1, vI p1), (9, vI y2.2), (88, .own 1 (List.map D.str ((([] : List (List UInt8)) ++ (sl y2.1 0 v11)) ++ [x16.Key]))), (89, .lent (.slot 8) 1 (List.map D.str y2.1)), (90, vI v11)] H) := by
                      subst hX
                      refine OX.step (i0 := 14) (is := []) (by kernel_rfl) (by kernel_rfl) ⟨?_, trivial⟩
                      · refine OWk.on 94 H (d := some 91) (s := lendL (some (.slot 8)) 1 (List.map D.str (sl y2.1 v11 (y2.1.length : Int)))) [0, 1, 9, 88, 91] [(0, .d (.list 5 (List.map encNote p0))), (1, vI p1), (9, vI y2.2), (88, .own 1 (List.map D.str ((([] : List (List UInt8)) ++ (sl y2.1 0 v11)) ++ [x16.Key]))), (91, .lent (.slot 8) 1 (List.map D.str (sl y2.1 v11 (y2.1.length : Int))))] (BAt.slice hk20 (by kernel_rfl)) (by kernel_rfl) <| OWk.done (by kernel_rfl) ?_
                        exact c32767
                    have c12287 : X 4 12287 (sp 94 [(0, .d (.list 5 (List.map encNote p0))), (1, vI p1), (8, .own 1 (List.map D.str y2.1)), (9, vI y2.2), (88, .own 1 (List.map D.str ((([] : List (List UInt8)) ++ (sl y2.1 0 v11)) ++ [x16.Key]))), (90, vI v11)] H) := by
                      subst hX
                      refine OX.step (i0 := 12) (is := []) (by kernel_rfl) (by kernel_rfl) ⟨?_, trivial⟩
                      · refine OWk.sg 94 H [77, 81, 88] [0, 1, 9, 88, 89, 90] 1 [(0, .d (.list 5 (List.map encNote p0))), (1, vI p1), (9, vI y2.2), (88, .own 1 (List.map D.str ((([] : List (List UInt8)) ++ (sl y2.1 0 v11)) ++ [x16.Key]))), (89, .lent (.slot 8) 1 (List.map D.str y2.1)), (90, vI v11)] (by kernel_rfl) <| OWk.done (by kernel_rfl) ?_
                        exact c16383
                    have c30719 : X 3 30719 (sp 94 [(0, .d (.list 5 (List.map encNote p0))), (1, vI p1), (9, vI y2.2), (81, .own 1 (List.map D.str (([] : List (List UInt8)) ++ (sl y2.1 0 v11)))), (87, .own 1 (List.map D.str [x16.Key])), (91, .lent (.slot 8) 1 (List.map D.str (sl y2.1 v11 (y2.1.length : Int))))] H) := by
                      subst hX
                      refine OX.step (i0 := 11) (is := []) (by kernel_rfl) (by kernel_rfl) ⟨?_, trivial⟩
                      · refine OWk.app 94 H (s := 81) (d := 88) (w := 1) [0, 1, 9, 88, 91] (zs := List.map D.str ((([] : List (List UInt8)) ++ (sl y2.1 0 v11)) ++ [x16.Key])) [(0, .d (.list 5 (List.map encNote p0))), (1, vI p1), (9, vI y2.2), (88, .own 1 (List.map D.str ((([] : List (List UInt8)) ++ (sl y2.1 0 v11)) ++ [x16.Key]))), (91, .lent (.slot 8) 1 (List.map D.str (sl y2.1 v11 (y2.1.length : Int))))] (ys := (List.map D.str [x16.Key])) (by kernel_rfl) (map_append') (room_map hk19) (by kernel_rfl) <| OWk.done (by kernel_rfl) ?_
                        exact c32767
                    have c14335 : X 4 14335 (sp 94 [(0, .d (.list 5 (List.map encNote p0))), (1, vI p1), (9, vI y2.2), (81, .own 1 (List.map D.str (([] : List (List UInt8)) ++ (sl y2.1 0 v11)))), (87, .own 1 (List.map D.str [x16.Key])), (89, .lent (.slot 8) 1 (List.map D.str y2.1)), (90, vI v11)] H) := by
                      subst hX
                      refine OX.step (i0 := 11) (is := [14]) (by kernel_rfl) (by kernel_rfl) ⟨?_, ?_, trivial⟩
                      · refine OWk.app 94 H (s := 81) (d := 88) (w := 1) [0, 1, 9, 88, 89, 90] (zs := List.map D.str ((([] : List (List UInt8)) ++ (sl y2.1 0 v11)) ++ [x16.Key])) [(0, .d (.list 5 (List.map encNote p0))), (1, vI p1), (9, vI y2.2), (88, .own 1 (List.map D.str ((([] : List (List UInt8)) ++ (sl y2.1 0 v11)) ++ [x16.Key]))), (89, .lent (.slot 8) 1 (List.map D.str y2.1)), (90, vI v11)] (ys := (List.map D.str [x16.Key])) (by kernel_rfl) (map_append') (room_map hk19) (by kernel_rfl) <| OWk.done (by kernel_rfl) ?_
                        exact c16383
                      · refine OWk.on 94 H (d := some 91) (s := lendL (some (.slot 8)) 1 (List.map D.str (sl y2.1 v11 (y2.1.length : Int)))) [0, 1, 9, 81, 87, 91] [(0, .d (.list 5 (List.map encNote p0))), (1, vI p1), (9, vI y2.2), (81, .own 1 (List.map D.str (([] : List (List UInt8)) ++ (sl y2.1 0 v11)))), (87, .own 1 (List.map D.str [x16.Key])), (91, .lent (.slot 8) 1 (List.map D.str (sl y2.1 v11 (y2.1.length : Int))))] (BAt.slice hk20 (by kernel_rfl)) (by kernel_rfl) <| OWk.done (by kernel_rfl) ?_
                        exact c30719
                    have c10239 : X 5 10239 (sp 94 [(0, .d (.list 5 (List.map encNote p0))), (1, vI p1), (8, .own 1 (List.map D.str y2.1)), (9, vI y2.2), (81, .own 1 (List.map D.str (([] : List (List UInt8)) ++ (sl y2.1 0 v11)))), (87, .own 1 (List.map D.str [x16.Key])), (90, vI v11)] H) := by
                      subst hX
                      refine OX.step (i0 := 11) (is := [12]) (by kernel_rfl) (by kernel_rfl) ⟨?_, ?_, trivial⟩
                      · refine OWk.app 94 H (s := 81) (d := 88) (w := 1) [0, 1, 8, 9, 88, 90] (zs := List.map D.str ((([] : List (List UInt8)) ++ (sl y2.1 0 v11)) ++ [x16.Key])) [(0, .d (.list 5 (List.map encNote p0))), (1, vI p1), (8, .own 1 (List.map D.str y2.1)), (9, vI y2.2), (88, .own 1 (List.map D.str ((([] : List (List UInt8)) ++ (sl y2.1 0 v11)) ++ [x16.Key]))), (90, vI v11)] (ys := (List.map D.str [x16.Key])) (by kernel_rfl) (map_append') (room_map hk19) (by kernel_rfl) <| OWk.done (by kernel_rfl) ?_
                        exact c12287
                      · refine OWk.sg 94 H [77, 81, 88] [0, 1, 9, 81, 87, 89, 90] 1 [(0, .d (.list 5 (List.map encNote p0))), (1, vI p1), (9, vI y2.2), (81, .own 1 (List.map D.str (([] : List (List UInt8)) ++ (sl y2.1 0 v11)))), (87, .own 1 (List.map D.str [x16.Key])), (89, .lent (.slot 8) 1 (List.map D.str y2.1)), (90, vI v11)] (by kernel_rfl) <| OWk.done (by kernel_rfl) ?_
                        exact c14335
                    have c29695 : X 4 29695 (sp 94 [(0, .d (.list 5 (List.map encNote p0))), (1, vI p1), (9, vI y2.2), (81, .own 1 (List.map D.str (([] : List (List UInt8)) ++ (sl y2.1 0 v11)))), (86, vS x16.Key), (91, .lent (.slot 8) 1 (List.map D.str (sl y2.1 v11 (y2.1.length : Int))))] H) := by
                      subst hX
                      refine OX.step (i0 := 10) (is := []) (by kernel_rfl) (by kernel_rfl) ⟨?_, trivial⟩
                      · refine OWk.sg 94 H [77, 81, 88] [0, 1, 9, 81, 87, 91] 1 [(0, .d (.list 5 (List.map encNote p0))), (1, vI p1), (9, vI y2.2), (81, .own 1 (List.map D.str (([] : List (List UInt8)) ++ (sl y2.1 0 v11)))), (87, .own 1 (List.map D.str [x16.Key])), (91, .lent (.slot 8) 1 (List.map D.str (sl y2.1 v11 (y2.1.length : Int))))] (by kernel_rfl) <| OWk.done (by kernel_rfl) ?_
                        exact c30719
                    have c13311 : X 5 13311 (sp 94 [(0, .d (.list 5 (List.map encNote p0))), (1, vI p1), (9, vI y2.2), (81, .own 1 (List.map D.str (([] : List (List UInt8)) ++ (sl y2.1 0 v11)))), (86, vS x16.Key), (89, .lent (.slot 8) 1 (List.map D.str y2.1)), (90, vI v11)] H) := by
                      subst hX
                      refine OX.step (i0 := 10) (is := [14]) (by kernel_rfl) (by kernel_rfl) ⟨?_, ?_, trivial⟩
                      · refine OWk.sg 94 H [77, 81, 88] [0, 1, 9, 81, 87, 89, 90] 1 [(0, .d (.list 5 (List.map encNote p0))), (1, vI p1), (9, vI y2.2), (81, .own 1 (List.map D.str (([] : List (List UInt8)) ++ (sl y2.1 0 v11)))), (87, .own 1 (List.map D.str [x16.Key])), (89, .lent (.slot 8) 1 (List.map D.str y2.1)), (90, vI v11)] (by kernel_rfl) <| OWk.done (by kernel_rfl) ?_
                        exact c14335
                      · refine OWk.on 94 H (d := some 91) (s := lendL (some (.slot 8)) 1 (List.map D.str (sl y2.1 v11 (y2.1.length : Int)))) [0, 1, 9, 81, 86, 91] [(0, .d (.list 5 (List.map encNote p0))), (1, vI p1), (9, vI y2.2), (81, .own 1 (List.map D.str (([] : List (List UInt8)) ++ (sl y2.1 0 v11)))), (86, vS x16.Key), (91, .lent (.slot 8) 1 (List.map D.str (sl y2.1 v11 (y2.1.length : Int))))] (BAt.slice hk20 (by kernel_rfl)) (by kernel_rfl) <| OWk.done (by kernel_rfl) ?_
                        exact c29695
                    have c9215 : X 6 9215 (sp 94 [(0, .d (.list 5 (List.map encNote p0))), (1, vI p1), (8, .own 1 (List.map D.str y2.1)), (9, vI y2.2), (81, .own 1 (List.map D.str (([] : List (List UInt8)) ++ (sl y2.1 0 v11)))), (86, vS x16.Key), (90, vI v11)] H) := by
                      subst hX
                      refine OX.step (i0 := 10) (is := [12]) (by kernel_rfl) (by kernel_rfl) ⟨?_, ?_, trivial⟩
                      · refine OWk.sg 94 H [77, 81, 88] [0, 1, 8, 9, 81, 87, 90] 1 [(0, .d (.list 5 (List.map encNote p0))), (1, vI p1), (8, .own 1 (List.map D.str y2.1)), (9, vI y2.2), (81, .own 1 (List.map D.str (([] : List (List UInt8)) ++ (sl y2.1 0 v11)))), (87, .own 1 (List.map D.str [x16.Key])), (90, vI v11)] (by kernel_rfl) <| OWk.done (by kernel_rfl) ?_
                        exact c10239
                      · refine OWk.sg 94 H [77, 81, 88] [0, 1, 9, 81, 86, 89, 90] 1 [(0, .d (.list 5 (List.map encNote p0))), (1, vI p1), (9, vI y2.2), (81, .own 1 (List.map D.str (([] : List (List UInt8)) ++ (sl y2.1 0 v11)))), (86, vS x16.Key), (89, .lent (.slot 8) 1 (List.map D.str y2.1)), (90, vI v11)] (by kernel_rfl) <| OWk.done (by kernel_rfl) ?_
                        exact c13311
                    have c29183 : X 5 29183 (sp 94 [(0, .d (.list 5 (List.map encNote p0))), (1, vI p1), (9, vI y2.2), (81, .own 1 (List.map D.str (([] : List (List UInt8)) ++ (sl y2.1 0 v11)))), (85, .d (.dptr [.str x16.Key, .bool x16.Has, .str x16.Text])), (91, .lent (.slot 8) 1 (List.map D.str (sl y2.1 v11 (y2.1.length : Int))))] H) := by
                      subst hX
                      refine OX.step (i0 := 9) (is := []) (by kernel_rfl) (by kernel_rfl) ⟨?_, trivial⟩
                      · refine OWk.sg 94 H [77, 81, 88] [0, 1, 9, 81, 86, 91] 1 [(0, .d (.list 5 (List.map encNote p0))), (1, vI p1), (9, vI y2.2), (81, .own 1 (List.map D.str (([] : List (List UInt8)) ++ (sl y2.1 0 v11)))), (86, vS x16.Key), (91, .lent (.slot 8) 1 (List.map D.str (sl y2.1 v11 (y2.1.length : Int))))] (by kernel_rfl) <| OWk.done (by kernel_rfl) ?_
                        exact c29695
                    have c12799 : X 6 12799 (sp 94 [(0, .d (.list 5 (List.map encNote p0))), (1, vI p1), (9, vI y2.2), (81, .own 1 (List.map D.str (([] : List (List UInt8)) ++ (sl y2.1 0 v11)))), (85, .d (.dptr [.str x16.Key, .bool x16.Has, .str x16.Text])), (89, .lent (.slot 8) 1 (List.map D.str y2.1)), (90, vI v11)] H) := by
                      subst hX
                      refine OX.step (i0 := 9) (is := [14]) (by kernel_rfl) (by kernel_rfl) ⟨?_, ?_, trivial⟩
                      · refine OWk.sg 94 H [77, 81, 88] [0, 1, 9, 81, 86, 89, 90] 1 [(0, .d (.list 5 (List.map encNote p0))), (1, vI p1), (9, vI y2.2), (81, .own 1 (List.map D.str (([] : List (List UInt8)) ++ (sl y2.1 0 v11)))), (86, vS x16.Key), (89, .lent (.slot 8) 1 (List.map D.str y2.1)), (90, vI v11)] (by kernel_rfl) <| OWk.done (by kernel_rfl) ?_
                        exact c13311
                      · refine OWk.on 94 H (d := some 91) (s := lendL (some (.slot 8)) 1 (List.map D.str (sl y2.1 v11 (y2.1.length : Int)))) [0, 1, 9, 81, 85, 91] [(0, .d (.list 5 (List.map encNote p0))), (1, vI p1), (9, vI y2.2), (81, .own 1 (List.map D.str (([] : List (List UInt8)) ++ (sl y2.1 0 v11)))), (85, .d (.dptr [.str x16.Key, .bool x16.Has, .str x16.Text])), (91, .lent (.slot 8) 1 (List.map D.str (sl y2.1 v11 (y2.1.length : Int))))] (BAt.slice hk20 (by kernel_rfl)) (by kernel_rfl) <| OWk.done (by kernel_rfl) ?_
                        exact c29183
                    have c8703 : X 7 8703 (sp 94 [(0, .d (.list 5 (List.map encNote p0))), (1, vI p1), (8, .own 1 (List.map D.str y2.1)), (9, vI y2.2), (81, .own 1 (List.map D.str (([] : List (List UInt8)) ++ (sl y2.1 0 v11)))), (85, .d (.dptr [.str x16.Key, .bool x16.Has, .str x16.Text])), (90, vI v11)] H) := by
                      subst hX
                      refine OX.step (i0 := 9) (is := [12]) (by kernel_rfl) (by kernel_rfl) ⟨?_, ?_, trivial⟩
                      · refine OWk.sg 94 H [77, 81, 88] [0, 1, 8, 9, 81, 86, 90] 1 [(0, .d (.list 5 (List.map encNote p0))), (1, vI p1), (8, .own 1 (List.map D.str y2.1)), (9, vI y2.2), (81, .own 1 (List.map D.str (([] : List (List UInt8)) ++ (sl y2.1 0 v11)))), (86, vS x16.Key), (90, vI v11)] (by kernel_rfl) <| OWk.done (by kernel_rfl) ?_
                        exact c9215
                      · refine OWk.sg 94 H [77, 81, 88] [0, 1, 9, 81, 85, 89, 90] 1 [(0, .d (.list 5 (List.map encNote p0))), (1, vI p1), (9, vI y2.2), (81, .own 1 (List.map D.str (([] : List (List UInt8)) ++ (sl y2.1 0 v11)))), (85, .d (.dptr [.str x16.Key, .bool x16.Has, .str x16.Text])), (89, .lent (.slot 8) 1 (List.map D.str y2.1)), (90, vI v11)] (by kernel_rfl) <| OWk.done (by kernel_rfl) ?_
                        exact c12799
                    have c30703 : X 4 30703 (sp 94 [(0, .d (.list 5 (List.map encNote p0))), (1, vI p1), (9, vI y2.2), (77, .own 1 (List.map D.str ([] : List (List UInt8)))), (80, .lent (.slot 8) 1 (List.map D.str (sl y2.1 0 v11))), (87, .own 1 (List.map D.str [x16.Key])), (91, .lent (.slot 8) 1 (List.map D.str (sl y2.1 v11 (y2.1.length : Int))))] H) := by
                      subst hX
                      refine OX.step (i0 := 4) (is := []) (by kernel_rfl) (by kernel_rfl) ⟨?_, trivial⟩
                      · refine OWk.app 94 H (s := 77) (d := 81) (w := 1) [0, 1, 9, 81, 87, 91] (zs := List.map D.str (([] : List (List UInt8)) ++ (sl y2.1 0 v11))) [(0, .d (.list 5 (List.map encNote p0))), (1, vI p1), (9, vI y2.2), (81, .own 1 (List.map D.str (([] : List (List UInt8)) ++ (sl y2.1 0 v11)))), (87, .own 1 (List.map D.str [x16.Key])), (91, .lent (.slot 8) 1 (List.map D.str (sl y2.1 v11 (y2.1.length : Int))))] (ys := (List.map D.str (sl y2.1 0 v11))) (by kernel_rfl) (map_append') (room_map hk18) (by kernel_rfl) <| OWk.done (by kernel_rfl) ?_
                        exact c30719
                    have c14319 : X 5 14319 (sp 94 [(0, .d (.list 5 (List.map encNote p0))), (1, vI p1), (9, vI y2.2), (77, .own 1 (List.map D.str ([] : List (List UInt8)))), (80, .lent (.slot 8) 1 (List.map D.str (sl y2.1 0 v11))), (87, .own 1 (List.map D.str [x16.Key])), (89, .lent (.slot 8) 1 (List.map D.str y2.1)), (90, vI v11)] H) := by
                      subst hX
                      refine OX.step (i0 := 4) (is := [14]) (by kernel_rfl) (by kernel_rfl) ⟨?_, ?_, trivial⟩
                      · refine OWk.app 94 H (s := 77) (d := 81) (w := 1) [0, 1, 9, 81, 87, 89, 90] (zs := List.map D.str (([] : List (List UInt8)) ++ (sl y2.1 0 v11))) [(0, .d (.list 5 (List.map encNote p0))), (1, vI p1), (9, vI y2.2), (81, .own 1 (List.map D.str (([] : List (List UInt8)) ++ (sl y2.1 0 v11)))), (87, .own 1 (List.map D.str [x16.Key])), (89, .lent (.slot 8) 1 (List.map D.str y2.1)), (90, vI v11)] (ys := (List.map D.str (sl y2.1 0 v11))) (by kernel_rfl) (map_append') (room_map hk18) (by kernel_rfl) <| OWk.done (by kernel_rfl) ?_
                        exact c14335
                      · refine OWk.on 94 H (d := some 91) (s := lendL (some (.slot 8)) 1 (List.map D.str (sl y2.1 v11 (y2.1.length : Int)))) [0, 1, 9, 77, 80, 87, 91] [(0, .d (.list 5 (List.map encNote p0))), (1, vI p1), (9, vI y2.2), (77, .own 1 (List.map D.str ([] : List (List UInt8)))), (80, .lent (.slot 8) 1 (List.map D.str (sl y2.1 0 v11))), (87, .own 1 (List.map D.str [x16.Key])), (91, .lent (.slot 8) 1 (List.map D.str (sl y2.1 v11 (y2.1.length : Int))))] (BAt.slice hk20 (by kernel_rfl)) (by kernel_rfl) <| OWk.done (by kernel_rfl) ?_
                        exact c30703
                    have c10223 : X 6 10223 (sp 94 [(0, .d (.list 5 (List.map encNote p0))), (1, vI p1), (8, .own 1 (List.map D.str y2.1)), (9, vI y2.2), (77, .own 1 (List.map D.str ([] : List (List UInt8)))), (80, .lent (.slot 8) 1 (List.map D.str (sl y2.1 0 v11))), (87, .own 1 (List.map D.str [x16.Key])), (90, vI v11)] H) := by
                      subst hX
                      refine OX.step (i0 := 4) (is := [12]) (by kernel_rfl) (by kernel_rfl) ⟨?_, ?_, trivial⟩
                      · refine OWk.app 94 H (s := 77) (d := 81) (w := 1) [0, 1, 8, 9, 81, 87, 90] (zs := List.map D.str (([] : List (List UInt8)) ++ (sl y2.1 0 v11))) [(0, .d (.list 5 (List.map encNote p0))), (1, vI p1), (8, .own 1 (List.map D.str y2.1)), (9, vI y2.2), (81, .own 1 (List.map D.str (([] : List (List UInt8)) ++ (sl y2.1 0 v11)))), (87, .own 1 (List.map D.str [x16.Key])), (90, vI v11)] (ys := (List.map D.str (sl y2.1 0 v11))) (by kernel_rfl) (map_append') (room_map hk18) (by kernel_rfl) <| OWk.done (by kernel_rfl) ?_
                        exact c10239
                      · refine OWk.sg 94 H [77, 81, 88] [0, 1, 9, 77, 80, 87, 89, 90] 1 [(0, .d (.list 5 (List.map encNote p0))), (1, vI p1), (9, vI y2.2), (77, .own 1 (List.map D.str ([] : List (List UInt8)))), (80, .lent (.slot 8) 1 (List.map D.str (sl y2.1 0 v11))), (87, .own 1 (List.map D.str [x16.Key])), (89, .lent (.slot 8) 1 (List.map D.str y2.1)), (90, vI v11)] (by kernel_rfl) <| OWk.done (by kernel_rfl) ?_
                        exact c14319
                    have c29679 : X 5 29679 (sp 94 [(0, .d (.list 5 (List.map encNote p0))), (1, vI p1), (9, vI y2.2), (77, .own 1 (List.map D.str ([] : List (List UInt8)))), (80, .lent (.slot 8) 1 (List.map D.str (sl y2.1 0 v11))), (86, vS x16.Key), (91, .lent (.slot 8) 1 (List.map D.str (sl y2.1 v11 (y2.1.length : Int))))] H) := by
                      subst hX
                      refine OX.step (i0 := 4) (is := [10]) (by kernel_rfl) (by kernel_rfl) ⟨?_, ?_, trivial⟩
                      · refine OWk.app 94 H (s := 77) (d := 81) (w := 1) [0, 1, 9, 81, 86, 91] (zs := List.map D.str (([] : List (List UInt8)) ++ (sl y2.1 0 v11))) [(0, .d (.list 5 (List.map encNote p0))), (1, vI p1), (9, vI y2.2), (81, .own 1 (List.map D.str (([] : List (List UInt8)) ++ (sl y2.1 0 v11)))), (86, vS x16.Key), (91, .lent (.slot 8) 1 (List.map D.str (sl y2.1 v11 (y2.1.length : Int))))] (ys := (List.map D.str (sl y2.1 0 v11))) (by kernel_rfl) (map_append') (room_map hk18) (by kernel_rfl) <| OWk.done (by kernel_rfl) ?_
                        exact c29695
                      · refine OWk.sg 94 H [77, 81, 88] [0, 1, 9, 77, 80, 87, 91] 1 [(0, .d (.list 5 (List.map encNote p0))), (1, vI p1), (9, vI y2.2), (77, .own 1 (List.map D.str ([] : List (List UInt8)))), (80, .lent (.slot 8) 1 (List.map D.str (sl y2.1 0 v11))), (87, .own 1 (List.map D.str [x16.Key])), (91, .lent (.slot 8) 1 (List.map D.str (sl y2.1 v11 (y2.1.length : Int))))] (by kernel_rfl) <| OWk.done (by kernel_rfl) ?_
                        exact c30703
                    have c13295 : X 6 13295 (sp 94 [(0, .d (.list 5 (List.map encNote p0))), (1, vI p1), (9, vI y2.2), (77, .own 1 (List.map D.str ([] : List (List UInt8)))), (80, .lent (.slot 8) 1 (List.map D.str (sl y2.1 0 v11))), (86, vS x16.Key), (89, .lent (.slot 8) 1 (List.map D.str y2.1)), (90, vI v11)] H) := by
                      subst hX
                      refine OX.step (i0 := 4) (is := [10, 14]) (by kernel_rfl) (by kernel_rfl) ⟨?_, ?_, ?_, trivial⟩
                      · refine OWk.app 94 H (s := 77) (d := 81) (w := 1) [0, 1, 9, 81, 86, 89, 90] (zs := List.map D.str (([] : List (List UInt8)) ++ (sl y2.1 0 v11))) [(0, .d (.list 5 (List.map encNote p0))), (1, vI p1), (9, vI y2.2), (81, .own 1 (List.map D.str (([] : List (List UInt8)) ++ (sl y2.1 0 v11)))), (86, vS x16.Key), (89, .lent (.slot 8) 1 (List.map D.str y2.1)), (90, vI v11)] (ys := (List.map D.str (sl y2.1 0 v11))) (by kernel_rfl) (map_append') (room_map hk18) (by kernel_rfl) <| OWk.done (by kernel_rfl) ?_
                        exact c13311
                      · refine OWk.sg 94 H [77, 81, 88] [0, 1, 9, 77, 80, 87, 89, 90] 1 [(0, .d (.list 5 (List.map encNote p0))), (1, vI p1), (9, vI y2.2), (77, .own 1 (List.map D.str ([] : List (List UInt8)))), (80, .lent (.slot 8) 1 (List.map D.str (sl y2.1 0 v11))), (87, .own 1 (List.map D.str [x16.Key])), (89, .lent (.slot 8) 1 (List.map D.str y2.1)), (90, vI v11)] (by kernel_rfl) <| OWk.done (by kernel_rfl) ?_
                        exact c14319
                      · refine OWk.on 94 H (d := some 91) (s := lendL (some (.slot 8)) 1 (List.map D.str (sl y2.1 v11 (y2.1.length : Int)))) [0, 1, 9, 77, 80, 86, 91] [(0, .d (.list 5 (List.map encNote p0))), (1, vI p1), (9, vI y2.2), (77, .own 1 (List.map D.str ([] : List (List UInt8)))), (80, .lent (.slot 8) 1 (List.map D.str (sl y2.1 0 v11))), (86, vS x16.Key), (91, .lent (.slot 8) 1 (List.map D.str (sl y2.1 v11 (y2.1.length : Int))))] (BAt.slice hk20 (by kernel_rfl)) (by kernel_rfl) <| OWk.done (by kernel_rfl) ?_
                        exact c29679
                    have c9199 : X 7 9199 (sp 94 [(0, .d (.list 5 (List.map encNote p0))), (1, vI p1), (8, .own 1 (List.map D.str y2.1)), (9, vI y2.2), (77, .own 1 (List.map D.str ([] : List (List UInt8)))), (80, .lent (.slot 8) 1 (List.map D.str (sl y2.1 0 v11))), (86, vS x16.Key), (90, vI v11)] H) := by
                      subst hX
                      refine OX.step (i0 := 4) (is := [10, 12]) (by kernel_rfl) (by kernel_rfl) ⟨?_, ?_, ?_, trivial⟩
                      · refine OWk.app 94 H (s := 77) (d := 81) (w := 1) [0, 1, 8, 9, 81, 86, 90] (zs := List.map D.str (([] : List (List UInt8)) ++ (sl y2.1 0 v11))) [(0, .d (.list 5 (List.map encNote p0))), (1, vI p1), (8, .own 1 (List.map D.str y2.1)), (9, vI y2.2), (81, .own 1 (List.map D.str (([] : List (List UInt8)) ++ (sl y2.1 0 v11)))), (86, vS x16.Key), (90, vI v11)] (ys := (List.map D.str (sl y2.1 0 v11))) (by kernel_rfl) (map_append') (room_map hk18) (by kernel_rfl) <| OWk.done (by kernel_rfl) ?_
                        exact c9215
                      · refine OWk.sg 94 H [77, 81, 88] [0, 1, 8, 9, 77, 80, 87, 90] 1 [(0, .d (.list 5 (List.map encNote p0))), (1, vI p1), (8, .own 1 (List.map D.str y2.1)), (9, vI y2.2), (77, .own 1 (List.map D.str ([] : List (List UInt8)))), (80, .lent (.slot 8) 1 (List.map D.str (sl y2.1 0 v11))), (87, .own 1 (List.map D.str [x16.Key])), (90, vI v11)] (by kernel_rfl) <| OWk.done (by kernel_rfl) ?_
                        exact c10223
                      · refine OWk.sg 94 H [77, 81, 88] [0, 1, 9, 77, 80, 86, 89, 90] 1 [(0, .d (.list 5 (List.map encNote p0))), (1, vI p1), (9, vI y2.2), (77, .own 1 (List.map D.str ([] : List (List UInt8)))), (80, .lent (.slot 8) 1 (List.map D.str (sl y2.1 0 v11))), (86, vS x16.Key), (89, .lent (.slot 8) 1 (List.map D.str y2.1)), (90, vI v11)] (by kernel_rfl) <| OWk.done (by kernel_rfl) ?_
                        exact c13295
                    have c29167 : X 6 29167 (sp 94 [(0, .d (.list 5 (List.map encNote p0))), (1, vI p1), (9, vI y2.2), (77, .own 1 (List.map D.str ([] : List (List UInt8)))), (80, .lent (.slot 8) 1 (List.map D.str (sl y2.1 0 v11))), (85, .d (.dptr [.str x16.Key, .bool x16.Has, .str x16.Text])), (91, .lent (.slot 8) 1 (List.map D.str (sl y2.1 v11 (y2.1.length : Int))))] H) := by
                      subst hX
                      refine OX.step (i0 := 4) (is := [9]) (by kernel_rfl) (by kernel_rfl) ⟨?_, ?_, trivial⟩
                      · refine OWk.app 94 H (s := 77) (d := 81) (w := 1) [0, 1, 9, 81, 85, 91] (zs := List.map D.str (([] : List (List UInt8)) ++ (sl y2.1 0 v11))) [(0, .d (.list 5 (List.map encNote p0))), (1, vI p1), (9, vI y2.2), (81, .own 1 (List.map D.str (([] : List (List UInt8)) ++ (sl y2.1 0 v11)))), (85, .d (.dptr [.str x16.Key, .bool x16.Has, .str x16.Text])), (91, .lent (.slot 8) 1 (List.map D.str (sl y2.1 v11 (y2.1.length : Int))))] (ys := (List.map D.str (sl y2.1 0 v11))) (by kernel_rfl) (map_append') (room_map hk18) (by kernel_rfl) <| OWk.done (by kernel_rfl) ?_
                        exact c29183
                      · refine OWk.sg 94 H [77, 81, 88] [0, 1, 9, 77, 80, 86, 91] 1 [(0, .d (.list 5 (List.map encNote p0))), (1, vI p1), (9, vI y2.2), (77, .own 1 (List.map D.str ([] : List (List UInt8)))), (80, .lent (.slot 8) 1 (List.map D.str (sl y2.1 0 v11))), (86, vS x16.Key), (91, .lent (.slot 8) 1 (List.map D.str (sl y2.1 v11 (y2.1.length : Int))))] (by kernel_rfl) <| OWk.done (by kernel_rfl) ?_
                        exact c29679
                    have c12783 : X 7 12783 (sp 94 [(0, .d (.list 5 (List.map encNote p0))), (1, vI p1), (9, vI y2.2), (77, .own 1 (List.map D.str ([] : List (List UInt8)))), (80, .lent (.slot 8) 1 (List.map D.str (sl y2.1 0 v11))), (85, .d (.dptr [.str x16.Key, .bool x16.Has, .str x16.Text])), (89, .lent (.slot 8) 1 (List.map D.str y2.1)), (90, vI v11)] H) := by
                      subst hX
                      refine OX.step (i0 := 4) (is := [9, 14]) (by kernel_rfl) (by kernel_rfl) ⟨?_, ?_, ?_, trivial⟩
                      · refine OWk.app 94 H (s := 77) (d := 81) (w := 1) [0, 1, 9, 81, 85, 89, 90] (zs := List.map D.str (([] : List (List UInt8)) ++ (sl y2.1 0 v11))) [(0, .d (.list 5 (List.map encNote p0))), (1, vI p1), (9, vI y2.2), (81, .own 1 (List.map D.str (([] : List (List UInt8)) ++ (sl y2.1 0 v11)))), (85, .d (.dptr [.str x16.Key, .bool x16.Has, .str x16.Text])), (89, .lent (.slot 8) 1 (List.map D.str y2.1)), (90, vI v11)] (ys := (List.map D.str (sl y2.1 0 v11))) (by kernel_rfl) (map_append') (room_map hk18) (by kernel_rfl) <| OWk.done (by kernel_rfl) ?_
                        exact c12799
                      · refine OWk.sg 94 H [77, 81, 88] [0, 1, 9, 77, 80, 86, 89, 90] 1 [(0, .d (.list 5 (List.map encNote p0))), (1, vI p1), (9, vI y2.2), (77, .own 1 (List.map D.str ([] : List (List UInt8)))), (80, .lent (.slot 8) 1 (List.map D.str (sl y2.1 0 v11))), (86, vS x16.Key), (89, .lent (.slot 8) 1 (List.map D.str y2.1)), (90, vI v11)] (by kernel_rfl) <| OWk.done (by kernel_rfl) ?_
                        exact c13295
                      · refine OWk.on 94 H (d := some 91) (s := lendL (some (.slot 8)) 1 (List.map D.str (sl y2.1 v11 (y2.1.length : Int)))) [0, 1, 9, 77, 80, 85, 91] [(0, .d (.list 5 (List.map encNote p0))), (1, vI p1), (9, vI y2.2), (77, .own 1 (List.map D.str ([] : List (List UInt8)))), (80, .lent (.slot 8) 1 (List.map D.str (sl y2.1 0 v11))), (85, .d (.dptr [.str x16.Key, .bool x16.Has, .str x16.Text])), (91, .lent (.slot 8) 1 (List.map D.str (sl y2.1 v11 (y2.1.length : Int))))] (BAt.slice hk20 (by kernel_rfl)) (by kernel_rfl) <| OWk.done (by kernel_rfl) ?_
                        exact c29167
                    have c8687 : X 8 8687 (sp 94 [(0, .d (.list 5 (List.map encNote p0))), (1, vI p1), (8, .own 1 (List.map D.str y2.1)), (9, vI y2.2), (77, .own 1 (List.map D.str ([] : List (List UInt8)))), (80, .lent (.slot 8) 1 (List.map D.str (sl y2.1 0 v11))), (85, .d (.dptr [.str x16.Key, .bool x16.Has, .str x16.Text])), (90, vI v11)] H) := by
                      subst hX
                      refine OX.step (i0 := 4) (is := [9, 12]) (by kernel_rfl) (by kernel_rfl) ⟨?_, ?_, ?_, trivial⟩
                      · refine OWk.app 94 H (s := 77) (d := 81) (w := 1) [0, 1, 8, 9, 81, 85, 90] (zs := List.map D.str (([] : List (List UInt8)) ++ (sl y2.1 0 v11))) [(0, .d (.list 5 (List.map encNote p0))), (1, vI p1), (8, .own 1 (List.map D.str y2.1)), (9, vI y2.2), (81, .own 1 (List.map D.str (([] : List (List UInt8)) ++ (sl y2.1 0 v11)))), (85, .d (.dptr [.str x16.Key, .bool x16.Has, .str x16.Text])), (90, vI v11)] (ys := (List.map D.str (sl y2.1 0 v11))) (by kernel_rfl) (map_append') (room_map hk18) (by kernel_rfl) <| OWk.done (by kernel_rfl) ?_
                        exact c8703
                      · refine OWk.sg 94 H [77, 81, 88] [0, 1, 8, 9, 77, 80, 86, 90] 1 [(0, .d (.list 5 (List.map encNote p0))), (1, vI p1), (8, .own 1 (List.map D.str y2.1)), (9, vI y2.2), (77, .own 1 (List.map D.str ([] : List (List UInt8)))), (80, .lent (.slot 8) 1 (List.map D.str (sl y2.1 0 v11))), (86, vS x16.Key), (90, vI v11)] (by kernel_rfl) <| OWk.done (by kernel_rfl) ?_
                        exact c9199
                      · refine OWk.sg 94 H [77, 81, 88] [0, 1, 9, 77, 80, 85, 89, 90] 1 [(0, .d (.list 5 (List.map encNote p0))), (1, vI p1), (9, vI y2.2), (77, .own 1 (List.map D.str ([] : List (List UInt8)))), (80, .lent (.slot 8) 1 (List.map D.str (sl y2.1 0 v11))), (85, .d (.dptr [.str x16.Key, .bool x16.Has, .str x16.Text])), (89, .lent (.slot 8) 1 (List.map D.str y2.1)), (90, vI v11)] (by kernel_rfl) <| OWk.done (by kernel_rfl) ?_
                        exact c12783
                    have c30695 : X 5 30695 (sp 94 [(0, .d (.list 5 (List.map encNote p0))), (1, vI p1), (9, vI y2.2), (77, .own 1 (List.map D.str ([] : List (List UInt8)))), (78, .lent (.slot 8) 1 (List.map D.str y2.1)), (79, vI v11), (87, .own 1 (List.map D.str [x16.Key])), (91, .lent (.slot 8) 1 (List.map D.str (sl y2.1 v11 (y2.1.length : Int))))] H) := by
                      subst hX
                      refine OX.step (i0 := 3) (is := []) (by kernel_rfl) (by kernel_rfl) ⟨?_, trivial⟩
                      · refine OWk.on 94 H (d := some 80) (s := lendL (some (.slot 8)) 1 (List.map D.str (sl y2.1 0 v11))) [0, 1, 9, 77, 80, 87, 91] [(0, .d (.list 5 (List.map encNote p0))), (1, vI p1), (9, vI y2.2), (77, .own 1 (List.map D.str ([] : List (List UInt8)))), (80, .lent (.slot 8) 1 (List.map D.str (sl y2.1 0 v11))), (87, .own 1 (List.map D.str [x16.Key])), (91, .lent (.slot 8) 1 (List.map D.str (sl y2.1 v11 (y2.1.length : Int))))] (BAt.slice hk17 (by kernel_rfl)) (by kernel_rfl) <| OWk.done (by kernel_rfl) ?_
                        exact c30703
                    have c14311 : X 6 14311 (sp 94 [(0, .d (.list 5 (List.map encNote p0))), (1, vI p1), (9, vI y2.2), (77, .own 1 (List.map D.str ([] : List (List UInt8)))), (78, .lent (.slot 8) 1 (List.map D.str y2.1)), (79, vI v11), (87, .own 1 (List.map D.str [x16.Key])), (89, .lent (.slot 8) 1 (List.map D.str y2.1)), (90, vI v11)] H) := by
                      subst hX
                      refine OX.step (i0 := 3) (is := [14]) (by kernel_rfl) (by kernel_rfl) ⟨?_, ?_, trivial⟩
                      · refine OWk.on 94 H (d := some 80) (s := lendL (some (.slot 8)) 1 (List.map D.str (sl y2.1 0 v11))) [0, 1, 9, 77, 80, 87, 89, 90] [(0, .d (.list 5 (List.map encNote p0))), (1, vI p1), (9, vI y2.2), (77, .own 1 (List.map D.str ([] : List (List UInt8)))), (80, .lent (.slot 8) 1 (List.map D.str (sl y2.1 0 v11))), (87, .own 1 (List.map D.str [x16.Key])), (89, .lent (.slot 8) 1 (List.map D.str y2.1)), (90, vI v11)] (BAt.slice hk17 (by kernel_rfl)) (by kernel_rfl) <| OWk.done (by kernel_rfl) ?_
                        exact c14319
                      · refine OWk.on 94 H (d := some 91) (s := lendL (some (.slot 8)) 1 (List.map D.str (sl y2.1 v11 (y2.1.length : Int)))) [0, 1, 9, 77, 78, 79, 87, 91] [(0, .d (.list 5 (List.map encNote p0))), (1, vI p1), (9, vI y2.2), (77, .own 1 (List.map D.str ([] : List (List UInt8)))), (78, .lent (.slot 8) 1 (List.map D.str y2.1)), (79, vI v11), (87, .own 1 (List.map D.str [x16.Key])), (91, .lent (.slot 8) 1 (List.map D.str (sl y2.1 v11 (y2.1.length : Int))))] (BAt.slice hk20 (by kernel_rfl)) (by kernel_rfl) <| OWk.done (by kernel_rfl) ?_
                        exact c30695
                    have c10215 : X 7 10215 (sp 94 [(0, .d (.list 5 (List.map encNote p0))), (1, vI p1), (8, .own 1 (List.map D.str y2.1)), (9, vI y2.2), (77, .own 1 (List.map D.str ([] : List (List UInt8)))), (78, .lent (.slot 8) 1 (List.map D.str y2.1)), (79, vI v11), (87, .own 1 (List.map D.str [x16.Key])), (90, vI v11)] H) := by
                      subst hX
                      refine OX.step (i0 := 3) (is := [12]) (by kernel_rfl) (by kernel_rfl) ⟨?_, ?_, trivial⟩
                      · refine OWk.on 94 H (d := some 80) (s := lendL (some (.slot 8)) 1 (List.map D.str (sl y2.1 0 v11))) [0, 1, 8, 9, 77, 80, 87, 90] [(0, .d (.list 5 (List.map encNote p0))), (1, vI p1), (8, .own 1 (List.map D.str y2.1)), (9, vI y2.2), (77, .own 1 (List.map D.str ([] : List (List UInt8)))), (80, .lent (.slot 8) 1 (List.map D.str (sl y2.1 0 v11))), (87, .own 1 (List.map D.str [x16.Key])), (90, vI v11)] (BAt.slice hk17 (by kernel_rfl)) (by kernel_rfl) <| OWk.done (by kernel_rfl) ?_
                        exact c10223
                      · refine OWk.sg 94 H [77, 81, 88] [0, 1, 9, 77, 78, 79, 87, 89, 90] 1 [(0, .d (.list 5 (List.map encNote p0))), (1, vI p1), (9, vI y2.2), (77, .own 1 (List.map D.str ([] : List (List UInt8)))), (78, .lent (.slot 8) 1 (List.map D.str y2.1)), (79, vI v11), (87, .own 1 (List.map D.str [x16.Key])), (89, .lent (.slot 8) 1 (List.map D.str y2.1)), (90, vI v11)] (by kernel_rfl) <| OWk.done (by kernel_rfl) ?_
                        exact c14311
                    have c29671 : X 6 29671 (sp 94 [(0, .d (.list 5 (List.map encNote p0))), (1, vI p1), (9, vI y2.2), (77, .own 1 (List.map D.str ([] : List (List UInt8)))), (78, .lent (.slot 8) 1 (List.map D.str y2.1)), (79, vI v11), (86, vS x16.Key), (91, .lent (.slot 8) 1 (List.map D.str (sl y2.1 v11 (y2.1.length : Int))))] H) := by
                      subst hX
                      refine OX.step (i0 := 3) (is := [10]) (by kernel_rfl) (by kernel_rfl) ⟨?_, ?_, trivial⟩
                      · refine OWk.on 94 H (d := some 80) (s := lendL (some (.slot 8)) 1 (List.map D.str (sl y2.1 0 v11))) [0, 1, 9, 77, 80, 86, 91] [(0, .d (.list 5 (List.map encNote p0))), (1, vI p1), (9, vI y2.2), (77, .own 1 (List.map D.str ([] : List (List UInt8)))), (80, .lent (.slot 8) 1 (List.map D.str (sl y2.1 0 v11))), (86, vS x16.Key), (91, .lent (.slot 8) 1 (List.map D.str (sl y2.1 v11 (y2.1.length : Int))))] (BAt.slice hk17 (by kernel_rfl)) (by kernel_rfl) <| OWk.done (by kernel_rfl) ?_
                        exact c29679
                      · refine OWk.sg 94 H [77, 81, 88] [0, 1, 9, 77, 78, 79, 87, 91] 1 [(0, .d (.list 5 (List.map encNote p0))), (1, vI p1), (9, vI y2.2), (77, .own 1 (List.map D.str ([] : List (List UInt8)))), (78, .lent (.slot 8) 1 (List.map D.str y2.1)), (79, vI v11), (87, .own 1 (List.map D.str [x16.Key])), (91, .lent (.slot 8) 1 (List.map D.str (sl y2.1 v11 (y2.1.length : Int))))] (by kernel_rfl) <| OWk.done (by kernel_rfl) ?_
                        exact c30695
                    have c13287 : X 7 13287 (sp 94 [(0, .d (.list 5 (List.map encNote p0))), (1, vI p1), (9, vI y2.2), (77, .own 1 (List.map D.str ([] : List (List UInt8)))), (78, .lent (.slot 8) 1 (List.map D.str y2.1)), (79, vI v11), (86, vS x16.Key), (89, .lent (.slot 8) 1 (List.map D.str y2.1)), (90, vI v11)] H) := by
                      subst hX
                      refine OX.step (i0 := 3) (is := [10, 14]) (by kernel_rfl) (by kernel_rfl) ⟨?_, ?_, ?_, trivial⟩
                      · refine OWk.on 94 H (d := some 80) (s := lendL (some (.slot 8)) 1 (List.map D.str (sl y2.1 0 v11))) [0, 1, 9, 77, 80, 86, 89, 90] [(0, .d (.list 5 (List.map encNote p0))), (1, vI p1), (9, vI y2.2), (77, .own 1 (List.map D.str ([] : List (List UInt8)))), (80, .lent (.slot 8) 1 (List.map D.str (sl y2.1 0 v11))), (86, vS x16.Key), (89, .lent (.slot 8) 1 (List.map D.str y2.1)), (90, vI v11)] (BAt.slice hk17 (by kernel_rfl)) (by kernel_rfl) <| OWk.done (by kernel_rfl) ?_
                        exact c13295
                      · refine OWk.sg 94 H [77, 81, 88] [0, 1, 9, 77, 78, 79, 87, 89, 90] 1 [(0, .d (.list 5 (List.map encNote p0))), (1, vI p1), (9, vI y2.2), (77, .own 1 (List.map D.str ([] : List (List UInt8)))), (78, .lent (.slot 8) 1 (List.map D.str y2.1)), (79, vI v11), (87, .own 1 (List.map D.str [x16.Key])), (89, .lent (.slot 8) 1 (List.map D.str y2.1)), (90, vI v11)] (by kernel_rfl) <| OWk.done (by kernel_rfl) ?_
                        exact c14311
                      · refine OWk.on 94 H (d := some 91) (s := lendL (some (.slot 8)) 1 (List.map D.str (sl y2.1 v11 (y2.1.length : Int)))) [0, 1, 9, 77, 78, 79, 86, 91] [(0, .d (.list 5 (List.map encNote p0))), (1, vI p1), (9, vI y2.2), (77, .own 1 (List.map D.str ([] : List (List UInt8)))), (78, .lent (.slot 8) 1 (List.map D.str y2.1)), (79, vI v11), (86, vS x16.Key), (91, .lent (.slot 8) 1 (List.map D.str (sl y2.1 v11 (y2.1.length : Int))))] (BAt.slice hk20 (by kernel_rfl)) (by kernel_rfl) <| OWk.done (by kernel_rfl) ?_
                        exact c29671
                    have c9191 : X 8 9191 (sp 94 [(0, .d (.list 5 (List.map encNote p0))), (1, vI p1), (8, .own 1 (List.map D.str y2.1)), (9, vI y2.2), (77, .own 1 (List.map D.str ([] : List (List UInt8)))), (78, .lent (.slot 8) 1 (List.map D.str y2.1)), (79, vI v11), (86, vS x16.Key), (90, vI v11)] H) := by
                      subst hX
                      refine OX.step (i0 := 3) (is := [10, 12]) (by kernel_rfl) (by kernel_rfl) ⟨?_, ?_, ?_, trivial⟩
                      · refine OWk.on 94 H (d := some 80) (s := lendL (some (.slot 8)) 1 (List.map D.str (sl y2.1 0 v11))) [0, 1, 8, 9, 77, 80, 86, 90] [(0, .d (.list 5 (List.map encNote p0))), (1, vI p1), (8, .own 1 (List.map D.str y2.1)), (9, vI y2.2), (77, .own 1 (List.map D.str ([] : List (List UInt8)))), (80, .lent (.slot 8) 1 (List.map D.str (sl y2.1 0 v11))), (86, vS x16.Key), (90, vI v11)] (BAt.slice hk17 (by kernel_rfl)) (by kernel_rfl) <| OWk.done (by kernel_rfl) ?_
                        exact c9199
                      · refine OWk.sg 94 H [77, 81, 88] [0, 1, 8, 9, 77, 78, 79, 87, 90] 1 [(0, .d (.list 5 (List.map encNote p0))), (1, vI p1), (8, .own 1 (List.map D.str y2.1)), (9, vI y2.2), (77, .own 1 (List.map D.str ([] : List (List UInt8)))), (78, .lent (.slot 8) 1 (List.map D.str y2.1)), (79, vI v11), (87, .own 1 (List.map D.str [x16.Key])), (90, vI v11)] (by kernel_rfl) <| OWk.done (by kernel_rfl) ?_
                        exact c10215
                      · refine OWk.sg 94 H [77, 81, 88] [0, 1, 9, 77, 78, 79, 86, 89, 90] 1 [(0, .d (.list 5 (List.map encNote p0))), (1, vI p1), (9, vI y2.2), (77, .own 1 (List.map D.str ([] : List (List UInt8)))), (78, .lent (.slot 8) 1 (List.map D.str y2.1)), (79, vI v11), (86, vS x16.Key), (89, .lent (.slot 8) 1 (List.map D.str y2.1)), (90, vI v11)] (by kernel_rfl) <| OWk.done (by kernel_rfl) ?_
                        exact c13287
                    have c29159 : X 7 29159 (sp 94 [(0, .d (.list 5 (List.map encNote p0))), (1, vI p1), (9, vI y2.2), (77, .own 1 (List.map D.str ([] : List (List UInt8)))), (78, .lent (.slot 8) 1 (List.map D.str y2.1)), (79, vI v11), (85, .d (.dptr [.str x16.Key, .bool x16.Has, .str x16.Text])), (91, .lent (.slot 8) 1 (List.map D.str (sl y2.1 v11 (y2.1.length : Int))))] H) := by
                      subst hX
                      refine OX.step (i0 := 3) (is := [9]) (by kernel_rfl) (by kernel_rfl) ⟨?_, ?_, trivial⟩
                      · refine OWk.on 94 H (d := some 80) (s := lendL (some (.slot 8)) 1 (List.map D.str (sl y2.1 0 v11))) [0, 1, 9, 77, 80, 85, 91] [(0, .d (.list 5 (List.map encNote p0))), (1, vI p1), (9, vI y2.2), (77, .own 1 (List.map D.str ([] : List (List UInt8)))), (80, .lent (.slot 8) 1 (List.map D.str (sl y2.1 0 v11))), (85, .d (.dptr [.str x16.Key, .bool x16.Has, .str x16.Text])), (91, .lent (.slot 8) 1 (List.map D.str (sl y2.1 v11 (y2.1.length : Int))))] (BAt.slice hk17 (by kernel_rfl)) (by kernel_rfl) <| OWk.done (by kernel_rfl) ?_
                        exact c29167
                      · refine OWk.sg 94 H [77, 81, 88] [0, 1, 9, 77, 78, 79, 86, 91] 1 [(0, .d (.list 5 (List.map encNote p0))), (1, vI p1), (9, vI y2.2), (77, .own 1 (List.map D.str ([] : List (List UInt8)))), (78, .lent (.slot 8) 1 (List.map D.str y2.1)), (79, vI v11), (86, vS x16.Key), (91, .lent (.slot 8) 1 (List.map D.str (sl y2.1 v11 (y2.1.length : Int))))] (by kernel_rfl) <| OWk.done (by kernel_rfl) ?_
                        exact c29671
                    have c12775 : X 8 12775 (sp 94 [(0, .d (.list 5 (List.map encNote p0))), (1, vI p1), (9, vI y2.2), (77, .own 1 (List.map D.str ([] : List (List UInt8)))), (78, .lent (.slot 8) 1 (List.map D.str y2.1)), (79, vI v11), (85, .d (.dptr [.str x16.Key, .bool x16.Has, .str x16.Text])), (89, .lent (.slot 8) 1 (List.map D.str y2.1)), (90, vI v11)] H) := by
                      subst hX
                      refine OX.step (i0 := 3) (is := [9, 14]) (by kernel_rfl) (by kernel_rfl) ⟨?_, ?_, ?_, trivial⟩
                      · refine OWk.on 94 H (d := some 80) (s := lendL (some (.slot 8)) 1 (List.map D.str (sl y2.1 0 v11))) [0, 1, 9, 77, 80, 85, 89, 90] [(0, .d (.list 5 (List.map encNote p0))), (1, vI p1), (9, vI y2.2), (77, .own 1 (List.map D.str ([] : List (List UInt8)))), (80, .lent (.slot 8) 1 (List.map D.str (sl y2.1 0 v11))), (85, .d (.dptr [.str x16.Key, .bool x16.Has, .str x16.Text])), (89, .lent (.slot 8) 1 (List.map D.str y2.1)), (90, vI v11)] (BAt.slice hk17 (by kernel_rfl)) (by kernel_rfl) <| OWk.done (by kernel_rfl) ?_
                        exact c12783
                      · refine OWk.sg 94 H [77, 81, 88] [0, 1, 9, 77, 78, 79, 86, 89, 90] 1 [(0, .d (.list 5 (List.map encNote p0))), (1, vI p1), (9, vI y2.2), (77, .own 1 (List.map D.str ([] : List (List UInt8)))), (78, .lent (.slot 8) 1 (List.map D.str y2.1)), (79, vI v11), (86, vS x16.Key), (89, .lent (.slot 8) 1 (List.map D.str y2.1)), (90, vI v11)] (by kernel_rfl) <| OWk.done (by kernel_rfl) ?_
                        exact c13287
                      · refine OWk.on 94 H (d := some 91) (s := lendL (some (.slot 8)) 1 (List.map D.str (sl y2.1 v11 (y2.1.length : Int)))) [0, 1, 9, 77, 78, 79, 85, 91] [(0, .d (.list 5 (List.map encNote p0))), (1, vI p1), (9, vI y2.2), (77, .own 1 (List.map D.str ([] : List (List UInt8)))), (78, .lent (.slot 8) 1 (List.map D.str y2.1)), (79, vI v11), (85, .d (.dptr [.str x16.Key, .bool x16.Has, .str x16.Text])), (91, .lent (.slot 8) 1 (List.map D.str (sl y2.1 v11 (y2.1.length : Int))))] (BAt.slice hk20 (by kernel_rfl)) (by kernel_rfl) <| OWk.done (by kernel_rfl) ?_
                        exact c29159
                    have c8679 : X 9 8679 (sp 94 [(0, .d (.list 5 (List.map encNote p0))), (1, vI p1), (8, .own 1 (List.map D.str y2.1)), (9, vI y2.2), (77, .own 1 (List.map D.str ([] : List (List UInt8)))), (78, .lent (.slot 8) 1 (List.map D.str y2.1)), (79, vI v11), (85, .d (.dptr [.str x16.Key, .bool x16.Has, .str x16.Text])), (90, vI v11)] H) := by
                      subst hX
                      refine OX.step (i0 := 3) (is := [9, 12]) (by kernel_rfl) (by kernel_rfl) ⟨?_, ?_, ?_, trivial⟩
                      · refine OWk.on 94 H (d := some 80) (s := lendL (some (.slot 8)) 1 (List.map D.str (sl y2.1 0 v11))) [0, 1, 8, 9, 77, 80, 85, 90] [(0, .d (.list 5 (List.map encNote p0))), (1, vI p1), (8, .own 1 (List.map D.str y2.1)), (9, vI y2.2), (77, .own 1 (List.map D.str ([] : List (List UInt8)))), (80, .lent (.slot 8) 1 (List.map D.str (sl y2.1 0 v11))), (85, .d (.dptr [.str x16.Key, .bool x16.Has, .str x16.Text])), (90, vI v11)] (BAt.slice hk17 (by kernel_rfl)) (by kernel_rfl) <| OWk.done (by kernel_rfl) ?_
                        exact c8687
                      · refine OWk.sg 94 H [77, 81, 88] [0, 1, 8, 9, 77, 78, 79, 86, 90] 1 [(0, .d (.list 5 (List.map encNote p0))), (1, vI p1), (8, .own 1 (List.map D.str y2.1)), (9, vI y2.2), (77, .own 1 (List.map D.str ([] : List (List UInt8)))), (78, .lent (.slot 8) 1 (List.map D.str y2.1)), (79, vI v11), (86, vS x16.Key), (90, vI v11)] (by kernel_rfl) <| OWk.done (by kernel_rfl) ?_
                        exact c9191
                      · refine OWk.sg 94 H [77, 81, 88] [0, 1, 9, 77, 78, 79, 85, 89, 90] 1 [(0, .d (.list 5 (List.map encNote p0))), (1, vI p1), (9, vI y2.2), (77, .own 1 (List.map D.str ([] : List (List UInt8)))), (78, .lent (.slot 8) 1 (List.map D.str y2.1)), (79, vI v11), (85, .d (.dptr [.str x16.Key, .bool x16.Has, .str x16.Text])), (89, .lent (.slot 8) 1 (List.map D.str y2.1)), (90, vI v11)] (by kernel_rfl) <| OWk.done (by kernel_rfl) ?_
                        exact c12775
                    have c30693 : X 6 30693 (sp 94 [(0, .d (.list 5 (List.map encNote p0))), (1, vI p1), (8, .own 1 (List.map D.str y2.1)), (9, vI y2.2), (77, .own 1 (List.map D.str ([] : List (List UInt8)))), (79, vI v11), (87, .own 1 (List.map D.str [x16.Key])), (91, .lent (.slot 8) 1 (List.map D.str (sl y2.1 v11 (y2.1.length : Int))))] H) := by
                      subst hX
                      refine OX.step (i0 := 1) (is := []) (by kernel_rfl) (by kernel_rfl) ⟨?_, trivial⟩
                      · refine OWk.sg 94 H [77, 81, 88] [0, 1, 9, 77, 78, 79, 87, 91] 1 [(0, .d (.list 5 (List.map encNote p0))), (1, vI p1), (9, vI y2.2), (77, .own 1 (List.map D.str ([] : List (List UInt8)))), (78, .lent (.slot 8) 1 (List.map D.str y2.1)), (79, vI v11), (87, .own 1 (List.map D.str [x16.Key])), (91, .lent (.slot 8) 1 (List.map D.str (sl y2.1 v11 (y2.1.length : Int))))] (by kernel_rfl) <| OWk.done (by kernel_rfl) ?_
                        exact c30695
                    have c14309 : X 7 14309 (sp 94 [(0, .d (.list 5 (List.map encNote p0))), (1, vI p1), (8, .own 1 (List.map D.str y2.1)), (9, vI y2.2), (77, .own 1 (List.map D.str ([] : List (List UInt8)))), (79, vI v11), (87, .own 1 (List.map D.str [x16.Key])), (89, .lent (.slot 8) 1 (List.map D.str y2.1)), (90, vI v11)] H) := by
                      subst hX
                      refine OX.step (i0 := 1) (is := [14]) (by kernel_rfl) (by kernel_rfl) ⟨?_, ?_, trivial⟩
                      · refine OWk.sg 94 H [77, 81, 88] [0, 1, 9, 77, 78, 79, 87, 89, 90] 1 [(0, .d (.list 5 (List.map encNote p0))), (1, vI p1), (9, vI y2.2), (77, .own 1 (List.map D.str ([] : List (List UInt8)))), (78, .lent (.slot 8) 1 (List.map D.str y2.1)), (79, vI v11), (87, .own 1 (List.map D.str [x16.Key])), (89, .lent (.slot 8) 1 (List.map D.str y2.1)), (90, vI v11)] (by kernel_rfl) <| OWk.done (by kernel_rfl) ?_
                        exact c14311
                      · refine OWk.on 94 H (d := some 91) (s := lendL (some (.slot 8)) 1 (List.map D.str (sl y2.1 v11 (y2.1.length : Int)))) [0, 1, 8, 9, 77, 79, 87, 91] [(0, .d (.list 5 (List.map encNote p0))), (1, vI p1), (8, .own 1 (List.map D.str y2.1)), (9, vI y2.2), (77, .own 1 (List.map D.str ([] : List (List UInt8)))), (79, vI v11), (87, .own 1 (List.map D.str [x16.Key])), (91, .lent (.slot 8) 1 (List.map D.str (sl y2.1 v11 (y2.1.length : Int))))] (BAt.slice hk20 (by kernel_rfl)) (by kernel_rfl) <| OWk.done (by kernel_rfl) ?_
                        exact c30693
                    have c10213 : X 8 10213 (sp 94 [(0, .d (.list 5 (List.map encNote p0))), (1, vI p1), (8, .own 1 (List.map D.str y2.1)), (9, vI y2.2), (77, .own 1 (List.map D.str ([] : List (List UInt8)))), (79, vI v11), (87, .own 1 (List.map D.str [x16.Key])), (90, vI v11)] H) := by
                      subst hX
                      refine OX.step (i0 := 1) (is := [12]) (by kernel_rfl) (by kernel_rfl) ⟨?_, ?_, trivial⟩
                      · refine OWk.sg 94 H [77, 81, 88] [0, 1, 8, 9, 77, 78, 79, 87, 90] 1 [(0, .d (.list 5 (List.map encNote p0))), (1, vI p1), (8, .own 1 (List.map D.str y2.1)), (9, vI y2.2), (77, .own 1 (List.map D.str ([] : List (List UInt8)))), (78, .lent (.slot 8) 1 (List.map D.str y2.1)), (79, vI v11), (87, .own 1 (List.map D.str [x16.Key])), (90, vI v11)] (by kernel_rfl) <| OWk.done (by kernel_rfl) ?_
                        exact c10215
                      · refine OWk.sg 94 H [77, 81, 88] [0, 1, 8, 9, 77, 79, 87, 89, 90] 1 [(0, .d (.list 5 (List.map encNote p0))), (1, vI p1), (8, .own 1 (List.map D.str y2.1)), (9, vI y2.2), (77, .own 1 (List.map D.str ([] : List (List UInt8)))), (79, vI v11), (87, .own 1 (List.map D.str [x16.Key])), (89, .lent (.slot 8) 1 (List.map D.str y2.1)), (90, vI v11)] (by kernel_rfl) <| OWk.done (by kernel_rfl) ?_
                        exact c14309
                    have c29669 : X 7 29669 (sp 94 [(0, .d (.list 5 (List.map encNote p0))), (1, vI p1), (8, .own 1 (List.map D.str y2.1)), (9, vI y2.2), (77, .own 1 (List.map D.str ([] : List (List UInt8)))), (79, vI v11), (86, vS x16.Key), (91, .lent (.slot 8) 1 (List.map D.str (sl y2.1 v11 (y2.1.length : Int))))] H) := by
                      subst hX
                      refine OX.step (i0 := 1) (is := [10]) (by kernel_rfl) (by kernel_rfl) ⟨?_, ?_, trivial⟩
                      · refine OWk.sg 94 H [77, 81, 88] [0, 1, 9, 77, 78, 79, 86, 91] 1 [(0, .d (.list 5 (List.map encNote p0))), (1, vI p1), (9, vI y2.2), (77, .own 1 (List.map D.str ([] : List (List UInt8)))), (78, .lent (.slot 8) 1 (List.map D.str y2.1)), (79, vI v11), (86, vS x16.Key), (91, .lent (.slot 8) 1 (List.map D.str (sl y2.1 v11 (y2.1.length : Int))))] (by kernel_rfl) <| OWk.done (by kernel_rfl) ?_
                        exact c29671
                      · refine OWk.sg 94 H [77, 81, 88] [0, 1, 8, 9, 77, 79, 87, 91] 1 [(0, .d (.list 5 (List.map encNote p0))), (1, vI p1), (8, .own 1 (List.map D.str y2.1)), (9, vI y2.2), (77, .own 1 (List.map D.str ([] : List (List UInt8)))), (79, vI v11), (87, .own 1 (List.map D.str [x16.Key])), (91, .lent (.slot 8) 1 (List.map D.str (sl y2.1 v11 (y2.1.length : Int))))] (by kernel_rfl) <| OWk.done (by kernel_rfl) ?_
                        exact c30693
                    have c13285 : X 8 13285 (sp 94 [(0, .d (.list 5 (List.map encNote p0))), (1, vI p1), (8, .own 1 (List.map D.str y2.1)), (9, vI y2.2), (77, .own 1 (List.map D.str ([] : List (List UInt8)))), (79, vI v11), (86, vS x16.Key), (89, .lent (.slot 8) 1 (List.map D.str y2.1)), (90, vI v11)] H) := by
                      subst hX
                      refine OX.step (i0 := 1) (is := [10, 14]) (by kernel_rfl) (by kernel_rfl) ⟨?_, ?_, ?_, trivial⟩
                      · refine OWk.sg 94 H [77, 81, 88] [0, 1, 9, 77, 78, 79, 86, 89, 90] 1 [(0, .d (.list 5 (List.map encNote p0))), (1, vI p1), (9, vI y2.2), (77, .own 1 (List.map D.str ([] : List (List UInt8)))), (78, .lent (.slot 8) 1 (List.map D.str y2.1)), (79, vI v11), (86, vS x16.Key), (89, .lent (.slot 8) 1 (List.map D.str y2.1)), (90, vI v11)] (by kernel_rfl) <| OWk.done (by kernel_rfl) ?_
                        exact c13287
                      · refine OWk.sg 94 H [77, 81, 88] [0, 1, 8, 9, 77, 79, 87, 89, 90] 1 [(0, .d (.list 5 (List.map encNote p0))), (1, vI p1), (8, .own 1 (List.map D.str y2.1)), (9, vI y2.2), (77, .own 1 (List.map D.str ([] : List (List UInt8)))), (79, vI v11), (87, .own 1 (List.map D.str [x16.Key])), (89, .lent (.slot 8) 1 (List.map D.str y2.1)), (90, vI v11)] (by kernel_rfl) <| OWk.done (by kernel_rfl) ?_
                        exact c14309
                      · refine OWk.on 94 H (d := some 91) (s := lendL (some (.slot 8)) 1 (List.map D.str (sl y2.1 v11 (y2.1.length : Int)))) [0, 1, 8, 9, 77, 79, 86, 91] [(0, .d (.list 5 (List.map encNote p0))), (1, vI p1), (8, .own 1 (List.map D.str y2.1)), (9, vI y2.2), (77, .own 1 (List.map D.str ([] : List (List UInt8)))), (79, vI v11), (86, vS x16.Key), (91, .lent (.slot 8) 1 (List.map D.str (sl y2.1 v11 (y2.1.length : Int))))] (BAt.slice hk20 (by kernel_rfl)) (by kernel_rfl) <| OWk.done (by kernel_rfl) ?_
                        exact c29669
                    have c9189 : X 9 9189 (sp 94 [(0, .d (.list 5 (List.map encNote p0))), (1, vI p1), (8, .own 1 (List.map D.str y2.1)), (9, vI y2.2), (77, .own 1 (List.map D.str ([] : List (List UInt8)))), (79, vI v11), (86, vS x16.Key), (90, vI v11)] H) := by
                      subst hX
                      refine OX.step (i0 := 1) (is := [10, 12]) (by kernel_rfl) (by kernel_rfl) ⟨?_, ?_, ?_, trivial⟩
                      · refine OWk.sg 94 H [77, 81, 88] [0, 1, 8, 9, 77, 78, 79, 86, 90] 1 [(0, .d (.list 5 (List.map encNote p0))), (1, vI p1), (8, .own 1 (List.map D.str y2.1)), (9, vI y2.2), (77, .own 1 (List.map D.str ([] : List (List UInt8)))), (78, .lent (.slot 8) 1 (List.map D.str y2.1)), (79, vI v11), (86, vS x16.Key), (90, vI v11)] (by kernel_rfl) <| OWk.done (by kernel_rfl) ?_
                        exact c9191
                      · refine OWk.sg 94 H [77, 81, 88] [0, 1, 8, 9, 77, 79, 87, 90] 1 [(0, .d (.list 5 (List.map encNote p0))), (1, vI p1), (8, .own 1 (List.map D.str y2.1)), (9, vI y2.2), (77, .own 1 (List.map D.str ([] : List (List UInt8)))), (79, vI v11), (87, .own 1 (List.map D.str [x16.Key])), (90, vI v11)] (by kernel_rfl) <| OWk.done (by kernel_rfl) ?_
                        exact c10213
                      · refine OWk.sg 94 H [77, 81, 88] [0, 1, 8, 9, 77, 79, 86, 89, 90] 1 [(0, .d (.list 5 (List.map encNote p0))), (1, vI p1), (8, .own 1 (List.map D.str y2.1)), (9, vI y2.2), (77, .own 1 (List.map D.str ([] : List (List UInt8)))), (79, vI v11), (86, vS x16.Key), (89, .lent (.slot 8) 1 (List.map D.str y2.1)), (90, vI v11)] (by kernel_rfl) <| OWk.done (by kernel_rfl) ?_
                        exact c13285
                    have c29157 : X 8 29157 (sp 94 [(0, .d (.list 5 (List.map encNote p0))), (1, vI p1), (8, .own 1 (List.map D.str y2.1)), (9, vI y2.2), (77, .own 1 (List.map D.str ([] : List (List UInt8)))), (79, vI v11), (85, .d (.dptr [.str x16.Key, .bool x16.Has, .str x16.Text])), (91, .lent (.slot 8) 1 (List.map D.str (sl y2.1 v11 (y2.1.length : Int))))] H) := by
                      subst hX
                      refine OX.step (i0 := 1) (is := [9]) (by kernel_rfl) (by kernel_rfl) ⟨?_, ?_, trivial⟩
                      · refine OWk.sg 94 H [77, 81, 88] [0, 1, 9, 77, 78, 79, 85, 91] 1 [(0, .d (.list 5 (List.map encNote p0))), (1, vI p1), (9, vI y2.2), (77, .own 1 (List.map D.str ([] : List (List UInt8)))), (78, .lent (.slot 8) 1 (List.map D.str y2.1)), (79, vI v11), (85, .d (.dptr [.str x16.Key, .bool x16.Has, .str x16.Text])), (91, .lent (.slot 8) 1 (List.map D.str (sl y2.1 v11 (y2.1.length : Int))))] (by kernel_rfl) <| OWk.done (by kernel_rfl) ?_
                        exact c29159
                      · refine OWk.sg 94 H [77, 81, 88] [0, 1, 8, 9, 77, 79, 86, 91] 1 [(0, .d (.list 5 (List.map encNote p0))), (1, vI p1), (8, .own 1 (List.map D.str y2.1)), (9, vI y2.2), (77, .own 1 (List.map D.str ([] : List (List UInt8)))), (79, vI v11), (86, vS x16.Key), (91, .lent (.slot 8) 1 (List.map D.str (sl y2.1 v11 (y2.1.length : Int))))] (by kernel_rfl) <| OWk.done (by kernel_rfl) ?_
                        exact c29669
                    have c12773 : X 9 12773 (sp 94 [(0, .d (.list 5 (List.map encNote p0))), (1, vI p1), (8, .own 1 (List.map D.str y2.1)), (9, vI y2.2), (77, .own 1 (List.map D.str ([] : List (List UInt8)))), (79, vI v11), (85, .d (.dptr [.str x16.Key, .bool x16.Has, .str x16.Text])), (89, .lent (.slot 8) 1 (List.map D.str y2.1)), (90, vI v11)] H) := by
                      subst hX
                      refine OX.step (i0 := 1) (is := [9, 14]) (by kernel_rfl) (by kernel_rfl) ⟨?_, ?_, ?_, trivial⟩
                      · refine OWk.sg 94 H [77, 81, 88] [0, 1, 9, 77, 78, 79, 85, 89, 90] 1 [(0, .d (.list 5 (List.map encNote p0))), (1, vI p1), (9, vI y2.2), (77, .own 1 (List.map D.str ([] : List (List UInt8)))), (78, .lent (.slot 8) 1 (List.map D.str y2.1)), (79, vI v11), (85, .d (.dptr [.str x16.Key, .bool x16.Has, .str x16.Text])), (89, .lent (.slot 8) 1 (List.map D.str y2.1)), (90, vI v11)] (by kernel_rfl) <| OWk.done (by kernel_rfl) ?_
                        exact c12775
                      · refine OWk.sg 94 H [77, 81, 88] [0, 1, 8, 9, 77, 79, 86, 89, 90] 1 [(0, .d (.list 5 (List.map encNote p0))), (1, vI p1), (8, .own 1 (List.map D.str y2.1)), (9, vI y2.2), (77, .own 1 (List.map D.str ([] : List (List UInt8)))), (79, vI v11), (86, vS x16.Key), (89, .lent (.slot 8) 1 (List.map D.str y2.1)), (90, vI v11)] (by kernel_rfl) <| OWk.done (by kernel_rfl) ?_
                        exact c13285
                      · refine OWk.on 94 H (d := some 91) (s := lendL (some (.slot 8)) 1 (List.map D.str (sl y2.1 v11 (y2.1.length : Int)))) [0, 1, 8, 9, 77, 79, 85, 91] [(0, .d (.list 5 (List.map encNote p0))), (1, vI p1), (8, .own 1 (List.map D.str y2.1)), (9, vI y2.2), (77, .own 1 (List.map D.str ([] : List (List UInt8)))), (79, vI v11), (85, .d (.dptr [.str x16.Key, .bool x16.Has, .str x16.Text])), (91, .lent (.slot 8) 1 (List.map D.str (sl y2.1 v11 (y2.1.length : Int))))] (BAt.slice hk20 (by kernel_rfl)) (by kernel_rfl) <| OWk.done (by kernel_rfl) ?_
                        exact c29157
                    have c8677 : X 10 8677 (sp 94 [(0, .d (.list 5 (List.map encNote p0))), (1, vI p1), (8, .own 1 (List.map D.str y2.1)), (9, vI y2.2), (77, .own 1 (List.map D.str ([] : List (List UInt8)))), (79, vI v11), (85, .d (.dptr [.str x16.Key, .bool x16.Has, .str x16.Text])), (90, vI v11)] H) := by
                      subst hX
                      refine OX.step (i0 := 1) (is := [9, 12]) (by kernel_rfl) (by kernel_rfl) ⟨?_, ?_, ?_, trivial⟩
                      · refine OWk.sg 94 H [77, 81, 88] [0, 1, 8, 9, 77, 78, 79, 85, 90] 1 [(0, .d (.list 5 (List.map encNote p0))), (1, vI p1), (8, .own 1 (List.map D.str y2.1)), (9, vI y2.2), (77, .own 1 (List.map D.str ([] : List (List UInt8)))), (78, .lent (.slot 8) 1 (List.map D.str y2.1)), (79, vI v11), (85, .d (.dptr [.str x16.Key, .bool x16.Has, .str x16.Text])), (90, vI v11)] (by kernel_rfl) <| OWk.done (by kernel_rfl) ?_
                        exact c8679
                      · refine OWk.sg 94 H [77, 81, 88] [0, 1, 8, 9, 77, 79, 86, 90] 1 [(0, .d (.list 5 (List.map encNote p0))), (1, vI p1), (8, .own 1 (List.map D.str y2.1)), (9, vI y2.2), (77, .own 1 (List.map D.str ([] : List (List UInt8)))), (79, vI v11), (86, vS x16.Key), (90, vI v11)] (by kernel_rfl) <| OWk.done (by kernel_rfl) ?_
                        exact c9189
                      · refine OWk.sg 94 H [77, 81, 88] [0, 1, 8, 9, 77, 79, 85, 89, 90] 1 [(0, .d (.list 5 (List.map encNote p0))), (1, vI p1), (8, .own 1 (List.map D.str y2.1)), (9, vI y2.2), (77, .own 1 (List.map D.str ([] : List (List UInt8)))), (79, vI v11), (85, .d (.dptr [.str x16.Key, .bool x16.Has, .str x16.Text])), (89, .lent (.slot 8) 1 (List.map D.str y2.1)), (90, vI v11)] (by kernel_rfl) <| OWk.done (by kernel_rfl) ?_
                        exact c12773
                    have c30702 : X 5 30702 (sp 94 [(0, .d (.list 5 (List.map encNote p0))), (1, vI p1), (9, vI y2.2), (80, .lent (.slot 8) 1 (List.map D.str (sl y2.1 0 v11))), (87, .own 1 (List.map D.str [x16.Key])), (91, .lent (.slot 8) 1 (List.map D.str (sl y2.1 v11 (y2.1.length : Int))))] H) := by
                      subst hX
                      refine OX.step (i0 := 0) (is := []) (by kernel_rfl) (by kernel_rfl) ⟨?_, trivial⟩
                      · refine OWk.sg 94 H [77, 81, 88] [0, 1, 9, 77, 80, 87, 91] 1 [(0, .d (.list 5 (List.map encNote p0))), (1, vI p1), (9, vI y2.2), (77, .own 1 (List.map D.str ([] : List (List UInt8)))), (80, .lent (.slot 8) 1 (List.map D.str (sl y2.1 0 v11))), (87, .own 1 (List.map D.str [x16.Key])), (91, .lent (.slot 8) 1 (List.map D.str (sl y2.1 v11 (y2.1.length : Int))))] (by kernel_rfl) <| OWk.done (by kernel_rfl) ?_
                        exact c30703
                    have c14318 : X 6 14318 (sp 94 [(0, .d (.list 5 (List.map encNote p0))), (1, vI p1), (9, vI y2.2), (80, .lent (.slot 8) 1 (List.map D.str (sl y2.1 0 v11))), (87, .own 1 (List.map D.str [x16.Key])), (89, .lent (.slot 8) 1 (List.map D.str y2.1)), (90, vI v11)] H) := by
                      subst hX
                      refine OX.step (i0 := 0) (is := [14]) (by kernel_rfl) (by kernel_rfl) ⟨?_, ?_, trivial⟩
                      · refine OWk.sg 94 H [77, 81, 88] [0, 1, 9, 77, 80, 87, 89, 90] 1 [(0, .d (.list 5 (List.map encNote p0))), (1, vI p1), (9, vI y2.2), (77, .own 1 (List.map D.str ([] : List (List UInt8)))), (80, .lent (.slot 8) 1 (List.map D.str (sl y2.1 0 v11))), (87, .own 1 (List.map D.str [x16.Key])), (89, .lent (.slot 8) 1 (List.map D.str y2.1)), (90, vI v11)] (by kernel_rfl) <| OWk.done (by kernel_rfl) ?_
                        exact c14319
                      · refine OWk.on 94 H (d := some 91) (s := lendL (some (.slot 8)) 1 (List.map D.str (sl y2.1 v11 (y2.1.length : Int)))) [0, 1, 9, 80, 87, 91] [(0, .d (.list 5 (List.map encNote p0))), (1, vI p1), (9, vI y2.2), (80, .lent (.slot 8) 1 (List.map D.str (sl y2.1 0 v11))), (87, .own 1 (List.map D.str [x16.Key])), (91, .lent (.slot 8) 1 (List.map D.str (sl y2.1 v11 (y2.1.length : Int))))] (BAt.slice hk20 (by kernel_rfl)) (by kernel_rfl) <| OWk.done (by kernel_rfl) ?_
                        exact c30702
                    have c10222 : X 7 10222 (sp 94 [(0, .d (.list 5 (List.map encNote p0))), (1, vI p1), (8, .own 1 (List.map D.str y2.1)), (9, vI y2.2), (80, .lent (.slot 8) 1 (List.map D.str (sl y2.1 0 v11))), (87, .own 1 (List.map D.str [x16.Key])), (90, vI v11)] H) := by
                      subst hX
                      refine OX.step (i0 := 0) (is := [12]) (by kernel_rfl) (by kernel_rfl) ⟨?_, ?_, trivial⟩
                      · refine OWk.sg 94 H [77, 81, 88] [0, 1, 8, 9, 77, 80, 87, 90] 1 [(0, .d (.list 5 (List.map encNote p0))), (1, vI p1), (8, .own 1 (List.map D.str y2.1)), (9, vI y2.2), (77, .own 1 (List.map D.str ([] : List (List UInt8)))), (80, .lent (.slot 8) 1 (List.map D.str (sl y2.1 0 v11))), (87, .own 1 (List.map D.str [x16.Key])), (90, vI v11)] (by kernel_rfl) <| OWk.done (by kernel_rfl) ?_
                        exact c10223
                      · refine OWk.sg 94 H [77, 81, 88] [0, 1, 9, 80, 87, 89, 90] 1 [(0, .d (.list 5 (List.map encNote p0))), (1, vI p1), (9, vI y2.2), (80, .lent (.slot 8) 1 (List.map D.str (sl y2.1 0 v11))), (87, .own 1 (List.map D.str [x16.Key])), (89, .lent (.slot 8) 1 (List.map D.str y2.1)), (90, vI v11)] (by kernel_rfl) <| OWk.done (by kernel_rfl) ?_
                        exact c14318
                    have c29678 : X 6 29678 (sp 94 [(0, .d (.list 5 (List.map encNote p0))), (1, vI p1), (9, vI y2.2), (80, .lent (.slot 8) 1 (List.map D.str (sl y2.1 0 v11))), (86, vS x16.Key), (91, .lent (.slot 8) 1 (List.map D.str (sl y2.1 v11 (y2.1.length : Int))))] H) := by
                      subst hX
                      refine OX.step (i0 := 0) (is := [10]) (by kernel_rfl) (by kernel_rfl) ⟨?_, ?_, trivial⟩
                      · refine OWk.sg 94 H [77, 81, 88] [0, 1, 9, 77, 80, 86, 91] 1 [(0, .d (.list 5 (List.map encNote p0))), (1, vI p1), (9, vI y2.2), (77, .own 1 (List.map D.str ([] : List (List UInt8)))), (80, .lent (.slot 8) 1 (List.map D.str (sl y2.1 0 v11))), (86, vS x16.Key), (91, .lent (.slot 8) 1 (List.map D.str (sl y2.1 v11 (y2.1.length : Int))))] (by kernel_rfl) <| OWk.done (by kernel_rfl) ?_
                        exact c29679
                      · refine OWk.sg 94 H [77, 81, 88] [0, 1, 9, 80, 87, 91] 1 [(0, .d (.list 5 (List.map encNote p0))), (1, vI p1), (9, vI y2.2), (80, .lent (.slot 8) 1 (List.map D.str (sl y2.1 0 v11))), (87, .own 1 (List.map D.str [x16.Key])), (91, .lent (.slot 8) 1 (List.map D.str (sl y2.1 v11 (y2.1.length : Int))))] (by kernel_rfl) <| OWk.done (by kernel_rfl) ?_
                        exact c30702
                    have c13294 : X 7 13294 (sp 94 [(0, .d (.list 5 (List.map encNote p0))), (1, vI p1), (9, vI y2.2), (80, .lent (.slot 8) 1 (List.map D.str (sl y2.1 0 v11))), (86, vS x16.Key), (89, .lent (.slot 8) 1 (List.map D.str y2.1)), (90, vI v11)] H) := by
                      subst hX
                      refine OX.step (i0 := 0) (is := [10, 14]) (by kernel_rfl) (by kernel_rfl) ⟨?_, ?_, ?_, trivial⟩
                      · refine OWk.sg 94 H [77, 81, 88] [0, 1, 9, 77, 80, 86, 89, 90] 1 [(0, .d (.list 5 (List.map encNote p0))), (1, vI p1), (9, vI y2.2), (77, .own 1 (List.map D.str ([] : List (List UInt8)))), (80, .lent (.slot 8) 1 (List.map D.str (sl y2.1 0 v11))), (86, vS x16.Key), (89, .lent (.slot 8) 1 (List.map D.str y2.1)), (90, vI v11)] (by kernel_rfl) <| OWk.done (by kernel_rfl) ?_
                        exact c13295
                      · refine OWk.sg 94 H [77, 81, 88] [0, 1, 9, 80, 87, 89, 90] 1 [(0, .d (.list 5 (List.map encNote p0))), (1, vI p1), (9, vI y2.2), (80, .lent (.slot 8) 1 (List.map D.str (sl y2.1 0 v11))), (87, .own 1 (List.map D.str [x16.Key])), (89, .lent (.slot 8) 1 (List.map D.str y2.1)), (90, vI v11)] (by kernel_rfl) <| OWk.done (by kernel_rfl) ?_
                        exact c14318
                      · refine OWk.on 94 H (d := some 91) (s := lendL (some (.slot 8)) 1 (List.map D.str (sl y2.1 v11 (y2.1.length : Int)))) [0, 1, 9, 80, 86, 91] [(0, .d (.list 5 (List.map encNote p0))), (1, vI p1), (9, vI y2.2), (80, .lent (.slot 8) 1 (List.map D.str (sl y2.1 0 v11))), (86, vS x16.Key), (91, .lent (.slot 8) 1 (List.map D.str (sl y2.1 v11 (y2.1.length : Int))))] (BAt.slice hk20 (by kernel_rfl)) (by kernel_rfl) <| OWk.done (by kernel_rfl) ?_
                        exact c29678
                    have c9198 : X 8 9198 (sp 94 [(0, .d (.list 5 (List.map encNote p0))), (1, vI p1), (8, .own 1 (List.map D.str y2.1)), (9, vI y2.2), (80, .lent (.slot 8) 1 (List.map D.str (sl y2.1 0 v11))), (86, vS x16.Key), (90, vI v11)] H) := by
                      subst hX
                      refine OX.step (i0 := 0) (is := [10, 12]) (by kernel_rfl) (by kernel_rfl) ⟨?_, ?_, ?_, trivial⟩
                      · refine OWk.sg 94 H [77, 81, 88] [0, 1, 8, 9, 77, 80, 86, 90] 1 [(0, .d (.list 5 (List.map encNote p0))), (1, vI p1), (8, .own 1 (List.map D.str y2.1)), (9, vI y2.2), (77, .own 1 (List.map D.str ([] : List (List UInt8)))), (80, .lent (.slot 8) 1 (List.map D.str (sl y2.1 0 v11))), (86, vS x16.Key), (90, vI v11)] (by kernel_rfl) <| OWk.done (by kernel_rfl) ?_
                        exact c9199
                      · refine OWk.sg 94 H [77, 81, 88] [0, 1, 8, 9, 80, 87, 90] 1 [(0, .d (.list 5 (List.map encNote p0))), (1, vI p1), (8, .own 1 (List.map D.str y2.1)), (9, vI y2.2), (80, .lent (.slot 8) 1 (List.map D.str (sl y2.1 0 v11))), (87, .own 1 (List.map D.str [x16.Key])), (90, vI v11)] (by kernel_rfl) <| OWk.done (by kernel_rfl) ?_
                        exact c10222
                      · refine OWk.sg 94 H [77, 81, 88] [0, 1, 9, 80, 86, 89, 90] 1 [(0, .d (.list 5 (List.map encNote p0))), (1, vI p1), (9, vI y2.2), (80, .lent (.slot 8) 1 (List.map D.str (sl y2.1 0 v11))), (86, vS x16.Key), (89, .lent (.slot 8) 1 (List.map D.str y2.1)), (90, vI v11)] (by kernel_rfl) <| OWk.done (by kernel_rfl) ?_
                        exact c13294
                    have c29166 : X 7 29166 (sp 94 [(0, .d (.list 5 (List.map encNote p0))), (1, vI p1), (9, vI y2.2), (80, .lent (.slot 8) 1 (List.map D.str (sl y2.1 0 v11))), (85, .d (.dptr [.str x16.Key, .bool x16.Has, .str x16.Text])), (91, .lent (.slot 8) 1 (List.map D.str (sl y2.1 v11 (y2.1.length : Int))))] H) := by
                      subst hX
                      refine OX.step (i0 := 0) (is := [9]) (by kernel_rfl) (by kernel_rfl) ⟨?_, ?_, trivial⟩
                      · refine OWk.sg 94 H [77, 81, 88] [0, 1, 9, 77, 80, 85, 91] 1 [(0, .d (.list 5 (List.map encNote p0))), (1, vI p1), (9, vI y2.2), (77, .own 1 (List.map D.str ([] : List (List UInt8)))), (80, .lent (.slot 8) 1 (List.map D.str (sl y2.1 0 v11))), (85, .d (.dptr [.str x16.Key, .bool x16.Has, .str x16.Text])), (91, .lent (.slot 8) 1 (List.map D.str (sl y2.1 v11 (y2.1.length : Int))))] (by kernel_rfl) <| OWk.done (by kernel_rfl) ?_
                        exact c29167
                      · refine OWk.sg 94 H [77, 81, 88] [0, 1, 9, 80, 86, 91] 1 [(0, .d (.list 5 (List.map encNote p0))), (1, vI p1), (9, vI y2.2), (80, .lent (.slot 8) 1 (List.map D.str (sl y2.1 0 v11))), (86, vS x16.Key), (91, .lent (.slot 8) 1 (List.map D.str (sl y2.1 v11 (y2.1.length : Int))))] (by kernel_rfl) <| OWk.done (by kernel_rfl) ?_
                        exact c29678
                    have c12782 : X 8 12782 (sp 94 [(0, .d (.list 5 (List.map encNote p0))), (1, vI p1), (9, vI y2.2), (80, .lent (.slot 8) 1 (List.map D.str (sl y2.1 0 v11))), (85, .d (.dptr [.str x16.Key, .bool x16.Has, .str x16.Text])), (89, .lent (.slot 8) 1 (List.map D.str y2.1)), (90, vI v11)] H) := by
                      subst hX
                      refine OX.step (i0 := 0) (is := [9, 14]) (by kernel_rfl) (by kernel_rfl) ⟨?_, ?_, ?_, trivial⟩
                      · refine OWk.sg 94 H [77, 81, 88] [0, 1, 9, 77, 80, 85, 89, 90] 1 [(0, .d (.list 5 (List.map encNote p0))), (1, vI p1), (9, vI y2.2), (77, .own 1 (List.map D.str ([] : List (List UInt8)))), (80, .lent (.slot 8) 1 (List.map D.str (sl y2.1 0 v11))), (85, .d (.dptr [.str x16.Key, .bool x16.Has, .str x16.Text])), (89, .lent (.slot 8) 1 (List.map D.str y2.1)), (90, vI v11)] (by kernel_rfl) <| OWk.done (by kernel_rfl) ?_
                        exact c12783
                      · refine OWk.sg 94 H [77, 81, 88] [0, 1, 9, 80, 86, 89, 90] 1 [(0, .d (.list 5 (List.map encNote p0))), (1, vI p1), (9, vI y2.2), (80, .lent (.slot 8) 1 (List.map D.str (sl y2.1 0 v11))), (86, vS x16.Key), (89, .lent (.slot 8) 1 (List.map D.str y2.1)), (90, vI v11)] (by kernel_rfl) <| OWk.done (by kernel_rfl) ?_
                        exact c13294
                      · refine OWk.on 94 H (d := some 91) (s := lendL (some (.slot 8)) 1 (List.map D.str (sl y2.1 v11 (y2.1.length : Int)))) [0, 1, 9, 80, 85, 91] [(0, .d (.list 5 (List.map encNote p0))), (1, vI p1), (9, vI y2.2), (80, .lent (.slot 8) 1 (List.map D.str (sl y2.1 0 v11))), (85, .d (.dptr [.str x16.Key, .bool x16.Has, .str x16.Text])), (91, .lent (.slot 8) 1 (List.map D.str (sl y2.1 v11 (y2.1.length : Int))))] (BAt.slice hk20 (by kernel_rfl)) (by kernel_rfl) <| OWk.done (by kernel_rfl) ?_
                        exact c29166
                    have c8686 : X 9 8686 (sp 94 [(0, .d (.list 5 (List.map encNote p0))), (1, vI p1), (8, .own 1 (List.map D.str y2.1)), (9, vI y2.2), (80, .lent (.slot 8) 1 (List.map D.str (sl y2.1 0 v11))), (85, .d (.dptr [.str x16.Key, .bool x16.Has, .str x16.Text])), (90, vI v11)] H) := by
                      subst hX
                      refine OX.step (i0 := 0) (is := [9, 12]) (by kernel_rfl) (by kernel_rfl) ⟨?_, ?_, ?_, trivial⟩
                      · refine OWk.sg 94 H [77, 81, 88] [0, 1, 8, 9, 77, 80, 85, 90] 1 [(0, .d (.list 5 (List.map encNote p0))), (1, vI p1), (8, .own 1 (List.map D.str y2.1)), (9, vI y2.2), (77, .own 1 (List.map D.str ([] : List (List UInt8)))), (80, .lent (.slot 8) 1 (List.map D.str (sl y2.1 0 v11))), (85, .d (.dptr [.str x16.Key, .bool x16.Has, .str x16.Text])), (90, vI v11)] (by kernel_rfl) <| OWk.done (by kernel_rfl) ?_
                        exact c8687
                      · refine OWk.sg 94 H [77, 81, 88] [0, 1, 8, 9, 80, 86, 90] 1 [(0, .d (.list 5 (List.map encNote p0))), (1, vI p1), (8, .own 1 (List.map D.str y2.1)), (9, vI y2.2), (80, .lent (.slot 8) 1 (List.map D.str (sl y2.1 0 v11))), (86, vS x16.Key), (90, vI v11)] (by kernel_rfl) <| OWk.done (by kernel_rfl) ?_
                        exact c9198
                      · refine OWk.sg 94 H [77, 81, 88] [0, 1, 9, 80, 85, 89, 90] 1 [(0, .d (.list 5 (List.map encNote p0))), (1, vI p1), (9, vI y2.2), (80, .lent (.slot 8) 1 (List.map D.str (sl y2.1 0 v11))), (85, .d (.dptr [.str x16.Key, .bool x16.Has, .str x16.Text])), (89, .lent (.slot 8) 1 (List.map D.str y2.1)), (90, vI v11)] (by kernel_rfl) <| OWk.done (by kernel_rfl) ?_
                        exact c12782
                    have c30694 : X 6 30694 (sp 94 [(0, .d (.list 5 (List.map encNote p0))), (1, vI p1), (9, vI y2.2), (78, .lent (.slot 8) 1 (List.map D.str y2.1)), (79, vI v11), (87, .own 1 (List.map D.str [x16.Key])), (91, .lent (.slot 8) 1 (List.map D.str (sl y2.1 v11 (y2.1.length : Int))))] H) := by
                      subst hX
                      refine OX.step (i0 := 0) (is := [3]) (by kernel_rfl) (by kernel_rfl) ⟨?_, ?_, trivial⟩
                      · refine OWk.sg 94 H [77, 81, 88] [0, 1, 9, 77, 78, 79, 87, 91] 1 [(0, .d (.list 5 (List.map encNote p0))), (1, vI p1), (9, vI y2.2), (77, .own 1 (List.map D.str ([] : List (List UInt8)))), (78, .lent (.slot 8) 1 (List.map D.str y2.1)), (79, vI v11), (87, .own 1 (List.map D.str [x16.Key])), (91, .lent (.slot 8) 1 (List.map D.str (sl y2.1 v11 (y2.1.length : Int))))] (by kernel_rfl) <| OWk.done (by kernel_rfl) ?_
                        exact c30695
                      · refine OWk.on 94 H (d := some 80) (s := lendL (some (.slot 8)) 1 (List.map D.str (sl y2.1 0 v11))) [0, 1, 9, 80, 87, 91] [(0, .d (.list 5 (List.map encNote p0))), (1, vI p1), (9, vI y2.2), (80, .lent (.slot 8) 1 (List.map D.str (sl y2.1 0 v11))), (87, .own 1 (List.map D.str [x16.Key])), (91, .lent (.slot 8) 1 (List.map D.str (sl y2.1 v11 (y2.1.length : Int))))] (BAt.slice hk17 (by kernel_rfl)) (by kernel_rfl) <| OWk.done (by kernel_rfl) ?_
                        exact c30702
                    have c14310 : X 7 14310 (sp 94 [(0, .d (.list 5 (List.map encNote p0))), (1, vI p1), (9, vI y2.2), (78, .lent (.slot 8) 1 (List.map D.str y2.1)), (79, vI v11), (87, .own 1 (List.map D.str [x16.Key])), (89, .lent (.slot 8) 1 (List.map D.str y2.1)), (90, vI v11)] H) := by
                      subst hX
                      refine OX.step (i0 := 0) (is := [3, 14]) (by kernel_rfl) (by kernel_rfl) ⟨?_, ?_, ?_, trivial⟩
                      · refine OWk.sg 94 H [77, 81, 88] [0, 1, 9, 77, 78, 79, 87, 89, 90] 1 [(0, .d (.list 5 (List.map encNote p0))), (1, vI p1), (9, vI y2.2), (77, .own 1 (List.map D.str ([] : List (List UInt8)))), (78, .lent (.slot 8) 1 (List.map D.str y2.1)), (79, vI v11), (87, .own 1 (List.map D.str [x16.Key])), (89, .lent (.slot 8) 1 (List.map D.str y2.1)), (90, vI v11)] (by kernel_rfl) <| OWk.done (by kernel_rfl) ?_
                        exact c14311
                      · refine OWk.on 94 H (d := some 80) (s := lendL (some (.slot 8)) 1 (List.map D.str (sl y2.1 0 v11))) [0, 1, 9, 80, 87, 89, 90] [(0, .d (.list 5 (List.map encNote p0))), (1, vI p1), (9, vI y2.2), (80, .lent (.slot 8) 1 (List.map D.str (sl y2.1 0 v11))), (87, .own 1 (List.map D.str [x16.Key])), (89, .lent (.slot 8) 1 (List.map D.str y2.1)), (90, vI v11)] (BAt.slice hk17 (by kernel_rfl)) (by kernel_rfl) <| OWk.done (by kernel_rfl) ?_
                        exact c14318
                      · refine OWk.on 94 H (d := some 91) (s := lendL (some (.slot 8)) 1 (List.map D.str (sl y2.1 v11 (y2.1.length : Int)))) [0, 1, 9, 78, 79, 87, 91] [(0, .d (.list 5 (List.map encNote p0))), (1, vI p1), (9, vI y2.2), (78, .lent (.slot 8) 1 (List.map D.str y2.1)), (79, vI v11), (87, .own 1 (List.map D.str [x16.Key])), (91, .lent (.slot 8) 1 (List.map D.str (sl y2.1 v11 (y2.1.length : Int))))] (BAt.slice hk20 (by kernel_rfl)) (by kernel_rfl) <| OWk.done (by kernel_rfl) ?_
                        exact c30694
                    have c10214 : X 8 10214 (sp 94 [(0, .d (.list 5 (List.map encNote p0))), (1, vI p1), (8, .own 1 (List.map D.str y2.1)), (9, vI y2.2), (78, .lent (.slot 8) 1 (List.map D.str y2.1)), (79, vI v11), (87, .own 1 (List.map D.str [x16.Key])), (90, vI v11)] H) := by
                      subst hX
                      refine OX.step (i0 := 0) (is := [3, 12]) (by kernel_rfl) (by kernel_rfl) ⟨?_, ?_, ?_, trivial⟩
                      · refine OWk.sg 94 H [77, 81, 88] [0, 1, 8, 9, 77, 78, 79, 87, 90] 1 [(0, .d (.list 5 (List.map encNote p0))), (1, vI p1), (8, .own 1 (List.map D.str y2.1)), (9, vI y2.2), (77, .own 1 (List.map D.str ([] : List (List UInt8)))), (78, .lent (.slot 8) 1 (List.map D.str y2.1)), (79, vI v11), (87, .own 1 (List.map D.str [x16.Key])), (90, vI v11)] (by kernel_rfl) <| OWk.done (by kernel_rfl) ?_
                        exact c10215
                      · refine OWk.on 94 H (d := some 80) (s := lendL (some (.slot 8)) 1 (List.map D.str (sl y2.1 0 v11))) [0, 1, 8, 9, 80, 87, 90] [(0, .d (.list 5 (List.map encNote p0))), (1, vI p1), (8, .own 1 (List.map D.str y2.1)), (9, vI y2.2), (80, .lent (.slot 8) 1 (List.map D.str (sl y2.1 0 v11))), (87, .own 1 (List.map D.str [x16.Key])), (90, vI v11)] (BAt.slice hk17 (by kernel_rfl)) (by kernel_rfl) <| OWk.done (by kernel_rfl) ?_
                        exact c10222
                      · refine OWk.sg 94 H [77, 81, 88] [0, 1, 9, 78, 79, 87, 89, 90] 1 [(0, .d (.list 5 (List.map encNote p0))), (1, vI p1), (9, vI y2.2), (78, .lent (.slot 8) 1 (List.map D.str y2.1)), (79, vI v11), (87, .own 1 (List.map D.str [x16.Key])), (89, .lent (.slot 8) 1 (List.map D.str y2.1)), (90, vI v11)] (by kernel_rfl) <| OWk.done (by kernel_rfl) ?_
                        exact c14310
                    have c29670 : X 7 29670 (sp 94 [(0, .d (.list 5 (List.map encNote p0))), (1, vI p1), (9, vI y2.2), (78, .lent (.slot 8) 1 (List.map D.str y2.1)), (79, vI v11), (86, vS x16.Key), (91, .lent (.slot 8) 1 (List.map D.str (sl y2.1 v11 (y2.1.length : Int))))] H) := by
                      subst hX
                      refine OX.step (i0 := 0) (is := [3, 10]) (by kernel_rfl) (by kernel_rfl) ⟨?_, ?_, ?_, trivial⟩
                      · refine OWk.sg 94 H [77, 81, 88] [0, 1, 9, 77, 78, 79, 86, 91] 1 [(0, .d (.list 5 (List.map encNote p0))), (1, vI p1), (9, vI y2.2), (77, .own 1 (List.map D.str ([] : List (List UInt8)))), (78, .lent (.slot 8) 1 (List.map D.str y2.1)), (79, vI v11), (86, vS x16.Key), (91, .lent (.slot 8) 1 (List.map D.str (sl y2.1 v11 (y2.1.length : Int))))] (by kernel_rfl) <| OWk.done (by kernel_rfl) ?_
                        exact c29671
                      · refine OWk.on 94 H (d := some 80) (s := lendL (some (.slot 8)) 1 (List.map D.str (sl y2.1 0 v11))) [0, 1, 9, 80, 86, 91] [(0, .d (.list 5 (List.map encNote p0))), (1, vI p1), (9, vI y2.2), (80, .lent (.slot 8) 1 (List.map D.str (sl y2.1 0 v11))), (86, vS x16.Key), (91, .lent (.slot 8) 1 (List.map D.str (sl y2.1 v11 (y2.1.length : Int))))] (BAt.slice hk17 (by kernel_rfl)) (by kernel_rfl) <| OWk.done (by kernel_rfl) ?_
                        exact c29678
                      · refine OWk.sg 94 H [77, 81, 88] [0, 1, 9, 78, 79, 87, 91] 1 [(0, .d (.list 5 (List.map encNote p0))), (1, vI p1), (9, vI y2.2), (78, .lent (.slot 8) 1 (List.map D.str y2.1)), (79, vI v11), (87, .own 1 (List.map D.str [x16.Key])), (91, .lent (.slot 8) 1 (List.map D.str (sl y2.1 v11 (y2.1.length : Int))))] (by kernel_rfl) <| OWk.done (by kernel_rfl) ?_
                        exact c30694
                    have c13286 : X 8 13286 (sp 94 [(0, .d (.list 5 (List.map encNote p0))), (1, vI p1), (9, vI y2.2), (78, .lent (.slot 8) 1 (List.map D.str y2.1)), (79, vI v11), (86, vS x16.Key), (89, .lent (.slot 8) 1 (List.map D.str y2.1)), (90, vI v11)] H) := by
                      subst hX
                      refine OX.step (i0 := 0) (is := [3, 10, 14]) (by kernel_rfl) (by kernel_rfl) ⟨?_, ?_, ?_, ?_, trivial⟩
                      · refine OWk.sg 94 H [77, 81, 88] [0, 1, 9, 77, 78, 79, 86, 89, 90] 1 [(0, .d (.list 5 (List.map encNote p0))), (1, vI p1), (9, vI y2.2), (77, .own 1 (List.map D.str ([] : List (List UInt8)))), (78, .lent (.slot 8) 1 (List.map D.str y2.1)), (79, vI v11), (86, vS x16.Key), (89, .lent (.slot 8) 1 (List.map D.str y2.1)), (90, vI v11)] (by kernel_rfl) <| OWk.done (by kernel_rfl) ?_
                        exact c13287
                      · refine OWk.on 94 H (d := some 80) (s := lendL (some (.slot 8)) 1 (List.map D.str (sl y2.1 0 v11))) [0, 1, 9, 80, 86, 89, 90] [(0, .d (.list 5 (List.map encNote p0))), (1, vI p1), (9, vI y2.2), (80, .lent (.slot 8) 1 (List.map D.str (sl y2.1 0 v11))), (86, vS x16.Key), (89, .lent (.slot 8) 1 (List.map D.str y2.1)), (90, vI v11)] (BAt.slice hk17 (by kernel_rfl)) (by kernel_rfl) <| OWk.done (by kernel_rfl) ?_
                        exact c13294
                      · refine OWk.sg 94 H [77, 81, 88] [0, 1, 9, 78, 79, 87, 89, 90] 1 [(0, .d (.list 5 (List.map encNote p0))), (1, vI p1), (9, vI y2.2), (78, .lent (.slot 8) 1 (List.map D.str y2.1)), (79, vI v11), (87, .own 1 (List.map D.str [x16.Key])), (89, .lent (.slot 8) 1 (List.map D.str y2.1)), (90, vI v11)] (by kernel_rfl) <| OWk.done (by kernel_rfl) ?_
                        exact c14310
                      · refine OWk.on 94 H (d := some 91) (s := lendL (some (.slot 8)) 1 (List.map D.str (sl y2.1 v11 (y2.1.length : Int)))) [0, 1, 9, 78, 79, 86, 91] [(0, .d (.list 5 (List.map encNote p0))), (1, vI p1), (9, vI y2.2), (78, .lent (.slot 8) 1 (List.map D.str y2.1)), (79, vI v11), (86, vS x16.Key), (91, .lent (.slot 8) 1 (List.map D.str (sl y2.1 v11 (y2.1.length : Int))))] (BAt.slice hk20 (by kernel_rfl)) (by kernel_rfl) <| OWk.done (by kernel_rfl) ?_
                        exact c29670
                    have c9190 : X 9 9190 (sp 94 [(0, .d (.list 5 (List.map encNote p0))), (1, vI p1), (8, .own 1 (List.map D.str y2.1)), (9, vI y2.2), (78, .lent (.slot 8) 1 (List.map D.str y2.1)), (79, vI v11), (86, vS x16.Key), (90, vI v11)] H) := by
                      subst hX
                      refine OX.step (i0 := 0) (is := [3, 10, 12]) (by kernel_rfl) (by kernel_rfl) ⟨?_, ?_, ?_, ?_, trivial⟩
                      · refine OWk.sg 94 H [77, 81, 88] [0, 1, 8, 9, 77, 78, 79, 86, 90] 1 [(0, .d (.list 5 (List.map encNote p0))), (1, vI p1), (8, .own 1 (List.map D.str y2.1)), (9, vI y2.2), (77, .own 1 (List.map D.str ([] : List (List UInt8)))), (78, .lent (.slot 8) 1 (List.map D.str y2.1)), (79, vI v11), (86, vS x16.Key), (90, vI v11)] (by kernel_rfl) <| OWk.done (by kernel_rfl) ?_
                        exact c9191
                      · refine OWk.on 94 H (d := some 80) (s := lendL (some (.slot 8)) 1 (List.map D.str (sl y2.1 0 v11))) [0, 1, 8, 9, 80, 86, 90] [(0, .d (.list 5 (List.map encNote p0))), (1, vI p1), (8, .own 1 (List.map D.str y2.1)), (9, vI y2.2), (80, .lent (.slot 8) 1 (List.map D.str (sl y2.1 0 v11))), (86, vS x16.Key), (90, vI v11)] (BAt.slice hk17 (by kernel_rfl)) (by kernel_rfl) <| OWk.done (by kernel_rfl) ?_
                        exact c9198
                      · refine OWk.sg 94 H [77, 81, 88] [0, 1, 8, 9, 78, 79, 87, 90] 1 [(0, .d (.list 5 (List.map encNote p0))), (1, vI p1), (8, .own 1 (List.map D.str y2.1)), (9, vI y2.2), (78, .lent (.slot 8) 1 (List.map D.str y2.1)), (79, vI v11), (87, .own 1 (List.map D.str [x16.Key])), (90, vI v11)] (by kernel_rfl) <| OWk.done (by kernel_rfl) ?_
                        exact c10214
                      · refine OWk.sg 94 H [77, 81, 88] [0, 1, 9, 78, 79, 86, 89, 90] 1 [(0, .d (.list 5 (List.map encNote p0))), (1, vI p1), (9, vI y2.2), (78, .lent (.slot 8) 1 (List.map D.str y2.1)), (79, vI v11), (86, vS x16.Key), (89, .lent (.slot 8) 1 (List.map D.str y2.1)), (90, vI v11)] (by kernel_rfl) <| OWk.done (by kernel_rfl) ?_
                        exact c13286
                    have c29158 : X 8 29158 (sp 94 [(0, .d (.list 5 (List.map encNote p0))), (1, vI p1), (9, vI y2.2), (78, .lent (.slot 8) 1 (List.map D.str y2.1)), (79, vI v11), (85, .d (.dptr [.str x16.Key, .bool x16.Has, .str x16.Text])), (91, .lent (.slot 8) 1 (List.map D.str (sl y2.1 v11 (y2.1.length : Int))))] H) := by
                      subst hX
                      refine OX.step (i0 := 0) (is := [3, 9]) (by kernel_rfl) (by kernel_rfl) ⟨?_, ?_, ?_, trivial⟩
                      · refine OWk.sg 94 H [77, 81, 88] [0, 1, 9, 77, 78, 79, 85, 91] 1 [(0, .d (.list 5 (List.map encNote p0))), (1, vI p1), (9, vI y2.2), (77, .own 1 (List.map D.str ([] : List (List UInt8)))), (78, .lent (.slot 8) 1 (List.map D.str y2.1)), (79, vI v11), (85, .d (.dptr [.str x16.Key, .bool x16.Has, .str x16.Text])), (91, .lent (.slot 8) 1 (List.map D.str (sl y2.1 v11 (y2.1.length : Int))))] (by kernel_rfl) <| OWk.done (by kernel_rfl) ?_
                        exact c29159
                      · refine OWk.on 94 H (d := some 80) (s := lendL (some (.slot 8)) 1 (List.map D.str (sl y2.1 0 v11))) [0, 1, 9, 80, 85, 91] [(0, .d (.list 5 (List.map encNote p0))), (1, vI p1), (9, vI y2.2), (80, .lent (.slot 8) 1 (List.map D.str (sl y2.1 0 v11))), (85, .d (.dptr [.str x16.Key, .bool x16.Has, .str x16.Text])), (91, .lent (.slot 8) 1 (List.map D.str (sl y2.1 v11 (y2.1.length : Int))))] (BAt.slice hk17 (by kernel_rfl)) (by kernel_rfl) <| OWk.done (by kernel_rfl) ?_
                        exact c29166
                      · refine OWk.sg 94 H [77, 81, 88] [0, 1, 9, 78, 79, 86, 91] 1 [(0, .d (.list 5 (List.map encNote p0))), (1, vI p1), (9, vI y2.2), (78, .lent (.slot 8) 1 (List.map D.str y2.1)), (79, vI v11), (86, vS x16.Key), (91, .lent (.slot 8) 1 (List.map D.str (sl y2.1 v11 (y2.1.length : Int))))] (by kernel_rfl) <| OWk.done (by kernel_rfl) ?_
                        exact c29670
                    have c12774 : X 9 12774 (sp 94 [(0, .d (.list 5 (List.map encNote p0))), (1, vI p1), (9, vI y2.2), (78, .lent (.slot 8) 1 (List.map D.str y2.1)), (79, vI v11), (85, .d (.dptr [.str x16.Key, .bool x16.Has, .str x16.Text])), (89, .lent (.slot 8) 1 (List.map D.str y2.1)), (90, vI v11)] H) := by
                      subst hX
                      refine OX.step (i0 := 0) (is := [3, 9, 14]) (by kernel_rfl) (by kernel_rfl) ⟨?_, ?_, ?_, ?_, trivial⟩
                      · refine OWk.sg 94 H [77, 81, 88] [0, 1, 9, 77, 78, 79, 85, 89, 90] 1 [(0, .d (.list 5 (List.map encNote p0))), (1, vI p1), (9, vI y2.2), (77, .own 1 (List.map D.str ([] : List (List UInt8)))), (78, .lent (.slot 8) 1 (List.map D.str y2.1)), (79, vI v11), (85, .d (.dptr [.str x16.Key, .bool x16.Has, .str x16.Text])), (89, .lent (.slot 8) 1 (List.map D.str y2.1)), (90, vI v11)] (by kernel_rfl) <| OWk.done (by kernel_rfl) ?_
                        exact c12775
                      · refine OWk.on 94 H (d := some 80) (s := lendL (some (.slot 8)) 1 (List.map D.str (sl y2.1 0 v11))) [0, 1, 9, 80, 85, 89, 90] [(0, .d (.list 5 (List.map encNote p0))), (1, vI p1), (9, vI y2.2), (80, .lent (.slot 8) 1 (List.map D.str (sl y2.1 0 v11))), (85, .d (.dptr [.str x16.Key, .bool x16.Has, .str x16.Text])), (89, .lent (.slot 8) 1 (List.map D.str y2.1)), (90, vI v11)] (BAt.slice hk17 (by kernel_rfl)) (by kernel_rfl) <| OWk.done (by kernel_rfl) ?_
                        exact c12782
                      · refine OWk.sg 94 H [77, 81, 88] [0, 1, 9, 78, 79, 86, 89, 90] 1 [(0, .d (.list 5 (List.map encNote p0))), (1, vI p1), (9, vI y2.2), (78, .lent (.slot 8) 1 (List.map D.str y2.1)), (79, vI v11), (86, vS x16.Key), (89, .lent (.slot 8) 1 (List.map D.str y2.1)), (90, vI v11)] (by kernel_rfl) <| OWk.done (by kernel_rfl) ?_
                        exact c13286
                      · refine OWk.on 94 H (d := some 91) (s := lendL (some (.slot 8)) 1 (List.map D.str (sl y2.1 v11 (y2.1.length : Int)))) [0, 1, 9, 78, 79, 85, 91] [(0, .d (.list 5 (List.map encNote p0))), (1, vI p1), (9, vI y2.2), (78, .lent (.slot 8) 1 (List.map D.str y2.1)), (79, vI v11), (85, .d (.dptr [.str x16.Key, .bool x16.Has, .str x16.Text])), (91, .lent (.slot 8) 1 (List.map D.str (sl y2.1 v11 (y2.1.length : Int))))] (BAt.slice hk20 (by kernel_rfl)) (by kernel_rfl) <| OWk.done (by kernel_rfl) ?_
                        exact c29158
                    have c8678 : X 10 8678 (sp 94 [(0, .d (.list 5 (List.map encNote p0))), (1, vI p1), (8, .own 1 (List.map D.str y2.1)), (9, vI y2.2), (78, .lent (.slot 8) 1 (List.map D.str y2.1)), (79, vI v11), (85, .d (.dptr [.str x16.Key, .bool x16.Has, .str x16.Text])), (90, vI v11)] H) := by
                      subst hX
                      refine OX.step (i0 := 0) (is := [3, 9, 12]) (by kernel_rfl) (by kernel_rfl) ⟨?_, ?_, ?_, ?_, trivial⟩
                      · refine OWk.sg 94 H [77, 81, 88] [0, 1, 8, 9, 77, 78, 79, 85, 90] 1 [(0, .d (.list 5 (List.map encNote p0))), (1, vI p1), (8, .own 1 (List.map D.str y2.1)), (9, vI y2.2), (77, .own 1 (List.map D.str ([] : List (List UInt8)))), (78, .lent (.slot 8) 1 (List.map D.str y2.1)), (79, vI v11), (85, .d (.dptr [.str x16.Key, .bool x16.Has, .str x16.Text])), (90, vI v11)] (by kernel_rfl) <| OWk.done (by kernel_rfl) ?_
                        exact c8679
                      · refine OWk.on 94 H (d := some 80) (s := lendL (some (.slot 8)) 1 (List.map D.str (sl y2.1 0 v11))) [0, 1, 8, 9, 80, 85, 90] [(0, .d (.list 5 (List.map encNote p0))), (1, vI p1), (8, .own 1 (List.map D.str y2.1)), (9, vI y2.2), (80, .lent (.slot 8) 1 (List.map D.str (sl y2.1 0 v11))), (85, .d (.dptr [.str x16.Key, .bool x16.Has, .str x16.Text])), (90, vI v11)] (BAt.slice hk17 (by kernel_rfl)) (by kernel_rfl) <| OWk.done (by kernel_rfl) ?_
                        exact c8686
                      · refine OWk.sg 94 H [77, 81, 88] [0, 1, 8, 9, 78, 79, 86, 90] 1 [(0, .d (.list 5 (List.map encNote p0))), (1, vI p1), (8, .own 1 (List.map D.str y2.1)), (9, vI y2.2), (78, .lent (.slot 8) 1 (List.map D.str y2.1)), (79, vI v11), (86, vS x16.Key), (90, vI v11)] (by kernel_rfl) <| OWk.done (by kernel_rfl) ?_
                        exact c9190
                      · refine OWk.sg 94 H [77, 81, 88] [0, 1, 9, 78, 79, 85, 89, 90] 1 [(0, .d (.list 5 (List.map encNote p0))), (1, vI p1), (9, vI y2.2), (78, .lent (.slot 8) 1 (List.map D.str y2.1)), (79, vI v11), (85, .d (.dptr [.str x16.Key, .bool x16.Has, .str x16.Text])), (89, .lent (.slot 8) 1 (List.map D.str y2.1)), (90, vI v11)] (by kernel_rfl) <| OWk.done (by kernel_rfl) ?_
                        exact c12774
                    have c30692 : X 7 30692 (sp 94 [(0, .d (.list 5 (List.map encNote p0))), (1, vI p1), (8, .own 1 (List.map D.str y2.1)), (9, vI y2.2), (79, vI v11), (87, .own 1 (List.map D.str [x16.Key])), (91, .lent (.slot 8) 1 (List.map D.str (sl y2.1 v11 (y2.1.length : Int))))] H) := by
                      subst hX
                      refine OX.step (i0 := 0) (is := [1]) (by kernel_rfl) (by kernel_rfl) ⟨?_, ?_, trivial⟩
                      · refine OWk.sg 94 H [77, 81, 88] [0, 1, 8, 9, 77, 79, 87, 91] 1 [(0, .d (.list 5 (List.map encNote p0))), (1, vI p1), (8, .own 1 (List.map D.str y2.1)), (9, vI y2.2), (77, .own 1 (List.map D.str ([] : List (List UInt8)))), (79, vI v11), (87, .own 1 (List.map D.str [x16.Key])), (91, .lent (.slot 8) 1 (List.map D.str (sl y2.1 v11 (y2.1.length : Int))))] (by kernel_rfl) <| OWk.done (by kernel_rfl) ?_
                        exact c30693
                      · refine OWk.sg 94 H [77, 81, 88] [0, 1, 9, 78, 79, 87, 91] 1 [(0, .d (.list 5 (List.map encNote p0))), (1, vI p1), (9, vI y2.2), (78, .lent (.slot 8) 1 (List.map D.str y2.1)), (79, vI v11), (87, .own 1 (List.map D.str [x16.Key])), (91, .lent (.slot 8) 1 (List.map D.str (sl y2.1 v11 (y2.1.length : Int))))] (by kernel_rfl) <| OWk.done (by kernel_rfl) ?_
                        exact c30694
                    have c14308 : X 8 14308 (sp 94 [(0, .d (.list 5 (List.map encNote p0))), (1, vI p1), (8, .own 1 (List.map D.str y2.1)), (9, vI y2.2), (79, vI v11), (87, .own 1 (List.map D.str [x16.Key])), (89, .lent (.slot 8) 1 (List.map D.str y2.1)), (90, vI v11)] H) := by
                      subst hX
                      refine OX.step (i0 := 0) (is := [1, 14]) (by kernel_rfl) (by kernel_rfl) ⟨?_, ?_, ?_, trivial⟩
                      · refine OWk.sg 94 H [77, 81, 88] [0, 1, 8, 9, 77, 79, 87, 89, 90] 1 [(0, .d (.list 5 (List.map encNote p0))), (1, vI p1), (8, .own 1 (List.map D.str y2.1)), (9, vI y2.2), (77, .own 1 (List.map D.str ([] : List (List UInt8)))), (79, vI v11), (87, .own 1 (List.map D.str [x16.Key])), (89, .lent (.slot 8) 1 (List.map D.str y2.1)), (90, vI v11)] (by kernel_rfl) <| OWk.done (by kernel_rfl) ?_
                        exact c14309
                      · refine OWk.sg 94 H [77, 81, 88] [0, 1, 9, 78, 79, 87, 89, 90] 1 [(0, .d (.list 5 (List.map encNote p0))), (1, vI p1), (9, vI y2.2), (78, .lent (.slot 8) 1 (List.map D.str y2.1)), (79, vI v11), (87, .own 1 (List.map D.str [x16.Key])), (89, .lent (.slot 8) 1 (List.map D.str y2.1)), (90, vI v11)] (by kernel_rfl) <| OWk.done (by kernel_rfl) ?_
                        exact c14310
                      · refine OWk.on 94 H (d := some 91) (s := lendL (some (.slot 8)) 1 (List.map D.str (sl y2.1 v11 (y2.1.length : Int)))) [0, 1, 8, 9, 79, 87, 91] [(0, .d (.list 5 (List.map encNote p0))), (1, vI p1), (8, .own 1 (List.map D.str y2.1)), (9, vI y2.2), (79, vI v11), (87, .own 1 (List.map D.str [x16.Key])), (91, .lent (.slot 8) 1 (List.map D.str (sl y2.1 v11 (y2.1.length : Int))))] (BAt.slice hk20 (by kernel_rfl)) (by kernel_rfl) <| OWk.done (by kernel_rfl) ?_
                        exact c30692
                    have c10212 : X 9 10212 (sp 94 [(0, .d (.list 5 (List.map encNote p0))), (1, vI p1), (8, .own 1 (List.map D.str y2.1)), (9, vI y2.2), (79, vI v11), (87, .own 1 (List.map D.str [x16.Key])), (90, vI v11)] H) := by
                      subst hX
                      refine OX.step (i0 := 0) (is := [1, 12]) (by kernel_rfl) (by kernel_rfl) ⟨?_, ?_, ?_, trivial⟩
                      · refine OWk.sg 94 H [77, 81, 88] [0, 1, 8, 9, 77, 79, 87, 90] 1 [(0, .d (.list 5 (List.map encNote p0))), (1, vI p1), (8, .own 1 (List.map D.str y2.1)), (9, vI y2.2), (77, .own 1 (List.map D.str ([] : List (List UInt8)))), (79, vI v11), (87, .own 1 (List.map D.str [x16.Key])), (90, vI v11)] (by kernel_rfl) <| OWk.done (by kernel_rfl) ?_
                        exact c10213
                      · refine OWk.sg 94 H [77, 81, 88] [0, 1, 8, 9, 78, 79, 87, 90] 1 [(0, .d (.list 5 (List.map encNote p0))), (1, vI p1), (8, .own 1 (List.map D.str y2.1)), (9, vI y2.2), (78, .lent (.slot 8) 1 (List.map D.str y2.1)), (79, vI v11), (87, .own 1 (List.map D.str [x16.Key])), (90, vI v11)] (by kernel_rfl) <| OWk.done (by kernel_rfl) ?_
                        exact c10214
                      · refine OWk.sg 94 H [77, 81, 88] [0, 1, 8, 9, 79, 87, 89, 90] 1 [(0, .d (.list 5 (List.map encNote p0))), (1, vI p1), (8, .own 1 (List.map D.str y2.1)), (9, vI y2.2), (79, vI v11), (87, .own 1 (List.map D.str [x16.Key])), (89, .lent (.slot 8) 1 (List.map D.str y2.1)), (90, vI v11)] (by kernel_rfl) <| OWk.done (by kernel_rfl) ?_
                        exact c14308
                    have c29668 : X 8 29668 (sp 94 [(0, .d (.list 5 (List.map encNote p0))), (1, vI p1), (8, .own 1 (List.map D.str y2.1)), (9, vI y2.2), (79, vI v11), (86, vS x16.Key), (91, .lent (.slot 8) 1 (List.map D.str (sl y2.1 v11 (y2.1.length : Int))))] H) := by
                      subst hX
                      refine OX.step (i0 := 0) (is := [1, 10]) (by kernel_rfl) (by kernel_rfl) ⟨?_, ?_, ?_, trivial⟩
                      · refine OWk.sg 94 H [77, 81, 88] [0, 1, 8, 9, 77, 79, 86, 91] 1 [(0, .d (.list 5 (List.map encNote p0))), (1, vI p1), (8, .own 1 (List.map D.str y2.1)), (9, vI y2.2), (77, .own 1 (List.map D.str ([] : List (List UInt8)))), (79, vI v11), (86, vS x16.Key), (91, .lent (.slot 8) 1 (List.map D.str (sl y2.1 v11 (y2.1.length : Int))))] (by kernel_rfl) <| OWk.done (by kernel_rfl) ?_
                        exact c29669
                      · refine OWk.sg 94 H [77, 81, 88] [0, 1, 9, 78, 79, 86, 91] 1 [(0, .d (.list 5 (List.map encNote p0))), (1, vI p1), (9, vI y2.2), (78, .lent (.slot 8) 1 (List.map D.str y2.1)), (79, vI v11), (86, vS x16.Key), (91, .lent (.slot 8) 1 (List.map D.str (sl y2.1 v11 (y2.1.length : Int))))] (by kernel_rfl) <| OWk.done (by kernel_rfl) ?_
                        exact c29670
                      · refine OWk.sg 94 H [77, 81, 88] [0, 1, 8, 9, 79, 87, 91] 1 [(0, .d (.list 5 (List.map encNote p0))), (1, vI p1), (8, .own 1 (List.map D.str y2.1)), (9, vI y2.2), (79, vI v11), (87, .own 1 (List.map D.str [x16.Key])), (91, .lent (.slot 8) 1 (List.map D.str (sl y2.1 v11 (y2.1.length : Int))))] (by kernel_rfl) <| OWk.done (by kernel_rfl) ?_
                        exact c30692
                    have c13284 : X 9 13284 (sp 94 [(0, .d (.list 5 (List.map encNote p0))), (1, vI p1), (8, .own 1 (List.map D.str y2.1)), (9, vI y2.2), (79, vI v11), (86, vS x16.Key), (89, .lent (.slot 8) 1 (List.map D.str y2.1)), (90, vI v11)] H) := by
                      subst hX
                      refine OX.step (i0 := 0) (is := [1, 10, 14]) (by kernel_rfl) (by kernel_rfl) ⟨?_, ?_, ?_, ?_, trivial⟩
                      · refine OWk.sg 94 H [77, 81, 88] [0, 1, 8, 9, 77, 79, 86, 89, 90] 1 [(0, .d (.list 5 (List.map encNote p0))), (1, vI p1), (8, .own 1 (List.map D.str y2.1)), (9, vI y2.2), (77, .own 1 (List.map D.str ([] : List (List UInt8)))), (79, vI v11), (86, vS x16.Key), (89, .lent (.slot 8) 1 (List.map D.str y2.1)), (90, vI v11)] (by kernel_rfl) <| OWk.done (by kernel_rfl) ?_
                        exact c13285
                      · refine OWk.sg 94 H [77, 81, 88] [0, 1, 9, 78, 79, 86, 89, 90] 1 [(0, .d (.list 5 (List.map encNote p0))), (1, vI p1), (9, vI y2.2), (78, .lent (.slot 8) 1 (List.map D.str y2.1)), (79, vI v11), (86, vS x16.Key), (89, .lent (.slot 8) 1 (List.map D.str y2.1)), (90, vI v11)] (by kernel_rfl) <| OWk.done (by kernel_rfl) ?_
                        exact c13286
                      · refine OWk.sg 94 H [77, 81, 88] [0, 1, 8, 9, 79, 87, 89, 90] 1 [(0, .d (.list 5 (List.map encNote p0))), (1, vI p1), (8, .own 1 (List.map D.str y2.1)), (9, vI y2.2), (79, vI v11), (87, .own 1 (List.map D.str [x16.Key])), (89, .lent (.slot 8) 1 (List.map D.str y2.1)), (90, vI v11)] (by kernel_rfl) <| OWk.done (by kernel_rfl) ?_
                        exact c14308
                      · refine OWk.on 94 H (d := some 91) (s := lendL (some (.slot 8)) 1 (List.map D.str (sl y2.1 v11 (y2.1.length : Int)))) [0, 1, 8, 9, 79, 86, 91] [(0, .d (.list 5 (List.map encNote p0))), (1, vI p1), (8, .own 1 (List.map D.str y2.1)), (9, vI y2.2), (79, vI v11), (86, vS x16.Key), (91, .lent (.slot 8) 1 (List.map D.str (sl y2.1 v11 (y2.1.length : Int))))] (BAt.slice hk20 (by kernel_rfl)) (by kernel_rfl) <| OWk.done (by kernel_rfl) ?_
                        exact c29668
                    have c9188 : X 10 9188 (sp 94 [(0, .d (.list 5 (List.map encNote p0))), (1, vI p1), (8, .own 1 (List.map D.str y2.1)), (9, vI y2.2), (79, vI v11), (86, vS x16.Key), (90, vI v11)] H) := by
                      subst hX
                      refine OX.step (i0 := 0) (is := [1, 10, 12]) (by kernel_rfl) (by kernel_rfl) ⟨?_, ?_, ?_, ?_, trivial⟩
                      · refine OWk.sg 94 H [77, 81, 88] [0, 1, 8, 9, 77, 79, 86, 90] 1 [(0, .d (.list 5 (List.map encNote p0))), (1, vI p1), (8, .own 1 (List.map D.str y2.1)), (9, vI y2.2), (77, .own 1 (List.map D.str ([] : List (List UInt8)))), (79, vI v11), (86, vS x16.Key), (90, vI v11)] (by kernel_rfl) <| OWk.done (by kernel_rfl) ?_
                        exact c9189
                      · refine OWk.sg 94 H [77, 81, 88] [0, 1, 8, 9, 78, 79, 86, 90] 1 [(0, .d (.list 5 (List.map encNote p0))), (1, vI p1), (8, .own 1 (List.map D.str y2.1)), (9, vI y2.2), (78, .lent (.slot 8) 1 (List.map D.str y2.1)), (79, vI v11), (86, vS x16.Key), (90, vI v11)] (by kernel_rfl) <| OWk.done (by kernel_rfl) ?_
                        exact c9190
                      · refine OWk.sg 94 H [77, 81, 88] [0, 1, 8, 9, 79, 87, 90] 1 [(0, .d (.list 5 (List.map encNote p0))), (1, vI p1), (8, .own 1 (List.map D.str y2.1)), (9, vI y2.2), (79, vI v11), (87, .own 1 (List.map D.str [x16.Key])), (90, vI v11)] (by kernel_rfl) <| OWk.done (by kernel_rfl) ?_
                        exact c10212
                      · refine OWk.sg 94 H [77, 81, 88] [0, 1, 8, 9, 79, 86, 89, 90] 1 [(0, .d (.list 5 (List.map encNote p0))), (1, vI p1), (8, .own 1 (List.map D.str y2.1)), (9, vI y2.2), (79, vI v11), (86, vS x16.Key), (89, .lent (.slot 8) 1 (List.map D.str y2.1)), (90, vI v11)] (by kernel_rfl) <| OWk.done (by kernel_rfl) ?_
                        exact c13284
                    have c29156 : X 9 29156 (sp 94 [(0, .d (.list 5 (List.map encNote p0))), (1, vI p1), (8, .own 1 (List.map D.str y2.1)), (9, vI y2.2), (79, vI v11), (85, .d (.dptr [.str x16.Key, .bool x16.Has, .str x16.Text])), (91, .lent (.slot 8) 1 (List.map D.str (sl y2.1 v11 (y2.1.length : Int))))] H) := by
                      subst hX
                      refine OX.step (i0 := 0) (is := [1, 9]) (by kernel_rfl) (by kernel_rfl) ⟨?_, ?_, ?_, trivial⟩
                      · refine OWk.sg 94 H [77, 81, 88] [0, 1, 8, 9, 77, 79, 85, 91] 1 [(0, .d (.list 5 (List.map encNote p0))), (1, vI p1), (8, .own 1 (List.map D.str y2.1)), (9, vI y2.2), (77, .own 1 (List.map D.str ([] : List (List UInt8)))), (79, vI v11), (85, .d (.dptr [.str x16.Key, .bool x16.Has, .str x16.Text])), (91, .lent (.slot 8) 1 (List.map D.str (sl y2.1 v11 (y2.1.length : Int))))] (by kernel_rfl) <| OWk.done (by kernel_rfl) ?_
                        exact c29157
                      · refine OWk.sg 94 H [77, 81, 88] [0, 1, 9, 78, 79, 85, 91] 1 [(0, .d (.list 5 (List.map encNote p0))), (1, vI p1), (9, vI y2.2), (78, .lent (.slot 8) 1 (List.map D.str y2.1)), (79, vI v11), (85, .d (.dptr [.str x16.Key, .bool x16.Has, .str x16.Text])), (91, .lent (.slot 8) 1 (List.map D.str (sl y2.1 v11 (y2.1.length : Int))))] (by kernel_rfl) <| OWk.done (by kernel_rfl) ?_
                        exact c29158
                      · refine OWk.sg 94 H [77, 81, 88] [0, 1, 8, 9, 79, 86, 91] 1 [(0, .d (.list 5 (List.map encNote p0))), (1, vI p1), (8, .own 1 (List.map D.str y2.1)), (9, vI y2.2), (79, vI v11), (86, vS x16.Key), (91, .lent (.slot 8) 1 (List.map D.str (sl y2.1 v11 (y2.1.length : Int))))] (by kernel_rfl) <| OWk.done (by kernel_rfl) ?_
                        exact c29668
                    have c12772 : X 10 12772 (sp 94 [(0, .d (.list 5 (List.map encNote p0))), (1, vI p1), (8, .own 1 (List.map D.str y2.1)), (9, vI y2.2), (79, vI v11), (85, .d (.dptr [.str x16.Key, .bool x16.Has, .str x16.Text])), (89, .lent (.slot 8) 1 (List.map D.str y2.1)), (90, vI v11)] H) := by
                      subst hX
                      refine OX.step (i0 := 0) (is := [1, 9, 14]) (by kernel_rfl) (by kernel_rfl) ⟨?_, ?_, ?_, ?_, trivial⟩
                      · refine OWk.sg 94 H [77, 81, 88] [0, 1, 8, 9, 77, 79, 85, 89, 90] 1 [(0, .d (.list 5 (List.map encNote p0))), (1, vI p1), (8, .own 1 (List.map D.str y2.1)), (9, vI y2.2), (77, .own 1 (List.map D.str ([] : List (List UInt8)))), (79, vI v11), (85, .d (.dptr [.str x16.Key, .bool x16.Has, .str x16.Text])), (89, .lent (.slot 8) 1 (List.map D.str y2.1)), (90, vI v11)] (by kernel_rfl) <| OWk.done (by kernel_rfl) ?_
                        exact c12773
                      · refine OWk.sg 94 H [77, 81, 88] [0, 1, 9, 78, 79, 85, 89, 90] 1 [(0, .d (.list 5 (List.map encNote p0))), (1, vI p1), (9, vI y2.2), (78, .lent (.slot 8) 1 (List.map D.str y2.1)), (79, vI v11), (85, .d (.dptr [.str x16.Key, .bool x16.Has, .str x16.Text])), (89, .lent (.slot 8) 1 (List.map D.str y2.1)), (90, vI v11)] (by kernel_rfl) <| OWk.done (by kernel_rfl) ?_
                        exact c12774
                      · refine OWk.sg 94 H [77, 81, 88] [0, 1, 8, 9, 79, 86, 89, 90] 1 [(0, .d (.list 5 (List.map encNote p0))), (1, vI p1), (8, .own 1 (List.map D.str y2.1)), (9, vI y2.2), (79, vI v11), (86, vS x16.Key), (89, .lent (.slot 8) 1 (List.map D.str y2.1)), (90, vI v11)] (by kernel_rfl) <| OWk.done (by kernel_rfl) ?_
                        exact c13284
                      · refine OWk.on 94 H (d := some 91) (s := lendL (some (.slot 8)) 1 (List.map D.str (sl y2.1 v11 (y2.1.length : Int)))) [0, 1, 8, 9, 79, 85, 91] [(0, .d (.list 5 (List.map encNote p0))), (1, vI p1), (8, .own 1 (List.map D.str y2.1)), (9, vI y2.2), (79, vI v11), (85, .d (.dptr [.str x16.Key, .bool x16.Has, .str x16.Text])), (91, .lent (.slot 8) 1 (List.map D.str (sl y2.1 v11 (y2.1.length : Int))))] (BAt.slice hk20 (by kernel_rfl)) (by kernel_rfl) <| OWk.done (by kernel_rfl) ?_
                        exact c29156
                    have c8676 : X 11 8676 (sp 94 [(0, .d (.list 5 (List.map encNote p0))), (1, vI p1), (8, .own 1 (List.map D.str y2.1)), (9, vI y2.2), (79, vI v11), (85, .d (.dptr [.str x16.Key, .bool x16.Has, .str x16.Text])), (90, vI v11)] H) := by
                      subst hX
                      refine OX.step (i0 := 0) (is := [1, 9, 12]) (by kernel_rfl) (by kernel_rfl) ⟨?_, ?_, ?_, ?_, trivial⟩
                      · refine OWk.sg 94 H [77, 81, 88] [0, 1, 8, 9, 77, 79, 85, 90] 1 [(0, .d (.list 5 (List.map encNote p0))), (1, vI p1), (8, .own 1 (List.map D.str y2.1)), (9, vI y2.2), (77, .own 1 (List.map D.str ([] : List (List UInt8)))), (79, vI v11), (85, .d (.dptr [.str x16.Key, .bool x16.Has, .str x16.Text])), (90, vI v11)] (by kernel_rfl) <| OWk.done (by kernel_rfl) ?_
                        exact c8677
                      · refine OWk.sg 94 H [77, 81, 88] [0, 1, 8, 9, 78, 79, 85, 90] 1 [(0, .d (.list 5 (List.map encNote p0))), (1, vI p1), (8, .own 1 (List.map D.str y2.1)), (9, vI y2.2), (78, .lent (.slot 8) 1 (List.map D.str y2.1)), (79, vI v11), (85, .d (.dptr [.str x16.Key, .bool x16.Has, .str x16.Text])), (90, vI v11)] (by kernel_rfl) <| OWk.done (by kernel_rfl) ?_
                        exact c8678
                      · refine OWk.sg 94 H [77, 81, 88] [0, 1, 8, 9, 79, 86, 90] 1 [(0, .d (.list 5 (List.map encNote p0))), (1, vI p1), (8, .own 1 (List.map D.str y2.1)), (9, vI y2.2), (79, vI v11), (86, vS x16.Key), (90, vI v11)] (by kernel_rfl) <| OWk.done (by kernel_rfl) ?_
                        exact c9188
                      · refine OWk.sg 94 H [77, 81, 88] [0, 1, 8, 9, 79, 85, 89, 90] 1 [(0, .d (.list 5 (List.map encNote p0))), (1, vI p1), (8, .own 1 (List.map D.str y2.1)), (9, vI y2.2), (79, vI v11), (85, .d (.dptr [.str x16.Key, .bool x16.Has, .str x16.Text])), (89, .lent (.slot 8) 1 (List.map D.str y2.1)), (90, vI v11)] (by kernel_rfl) <| OWk.done (by kernel_rfl) ?_
                        exact c12772
                    refine OBk.sg 94 H [77, 81, 88] [0, 1, 8, 9, 10, 79] 1 [(0, .d (.list 5 (List.map encNote p0))), (1, vI p1), (8, .own 1 (List.map D.str y2.1)), (9, vI y2.2), (10, vI v11), (79, vI v11)] (by kernel_rfl) (by kernel_rfl) <| OBk.sg 94 H [77, 81, 88] [0, 1, 8, 9, 10, 79, 82] 1 [(0, .d (.list 5 (List.map encNote p0))), (1, vI p1), (8, .own 1 (List.map D.str y2.1)), (9, vI y2.2), (10, vI v11), (79, vI v11), (82, .d (.list 5 (List.map encNote p0)))] (by kernel_rfl) (by kernel_rfl) <| OBk.sg 94 H [77, 81, 88] [0, 1, 8, 9, 10, 79, 82, 83] 1 [(0, .d (.list 5 (List.map encNote p0))), (1, vI p1), (8, .own 1 (List.map D.str y2.1)), (9, vI y2.2), (10, vI v11), (79, vI v11), (82, .d (.list 5 (List.map encNote p0))), (83, vI y2.2)] (by kernel_rfl) (by kernel_rfl) <| OBk.on 94 H (d := some 84) (s := lendP none (Go.Sh.D.cells (encNote x16))) [0, 1, 8, 9, 10, 79, 84] [(0, .d (.list 5 (List.map encNote p0))), (1, vI p1), (8, .own 1 (List.map D.str y2.1)), (9, vI y2.2), (10, vI v11), (79, vI v11), (84, .d (.dptr [.int .i64 x16.Kind, .int .i64 x16.Unit, .str x16.Key, .bool x16.Has, .str x16.Text]))] (by kernel_rfl) (BAt.index (n := 5) hx16 (by kernel_rfl)) (by kernel_rfl) <| OBk.sg 94 H [77, 81, 88] [0, 1, 8, 9, 10, 79, 85] 1 [(0, .d (.list 5 (List.map encNote p0))), (1, vI p1), (8, .own 1 (List.map D.str y2.1)), (9, vI y2.2), (10, vI v11), (79, vI v11), (85, .d (.dptr [.str x16.Key, .bool x16.Has, .str x16.Text]))] (by kernel_rfl) (by kernel_rfl) <| OBk.sg 94 H [77, 81, 88] [0, 1, 8, 9, 79, 85, 90] 1 [(0, .d (.list 5 (List.map encNote p0))), (1, vI p1), (8, .own 1 (List.map D.str y2.1)), (9, vI y2.2), (79, vI v11), (85, .d (.dptr [.str x16.Key, .bool x16.Has, .str x16.Text])), (90, vI v11)] (by kernel_rfl) (by kernel_rfl) <| OBk.done (by kernel_rfl) ?_
                    exact c8676
                  refine blockS_n <| thenS_n <| SW.regionK <| OWk.sg 94 H [] [0, 1, 8, 9] 3 [(0, .d (.list 5 (List.map encNote p0))), (1, vI p1), (8, .own 1 (List.map D.str (((([] : List (List UInt8)) ++ (sl y2.1 0 v11)) ++ [x16.Key]) ++ (sl y2.1 v11 (y2.1.length : Int))))), (9, vI (IntKind.wrap .i64 (y2.2 + 1)))] (by kernel_rfl) <| OWk.done (by kernel_rfl) ?_
                  cases h
                  exact ⟨((((([] : List (List UInt8)) ++ (sl y2.1 0 v11)) ++ [x16.Key]) ++ (sl y2.1 v11 (y2.1.length : Int))), (IntKind.wrap .i64 (y2.2 + 1))), rfl, by kernel_rfl⟩
                · replace h := bif_f hc h
                  refine SW.skip <| blockS_n <| thenS_n <| SW.regionK <| OWk.sg 94 H [] [0, 1, 8, 9] 3 [(0, .d (.list 5 (List.map encNote p0))), (1, vI p1), (8, .own 1 (List.map D.str y2.1)), (9, vI (IntKind.wrap .i64 (y2.2 + 1)))] (by kernel_rfl) <| OWk.done (by kernel_rfl) ?_
                  cases h
                  exact ⟨(y2.1, (IntKind.wrap .i64 (y2.2 + 1))), rfl, by kernel_rfl⟩
              · refine SW.regionDk (by kernel_rfl) (by kernel_rfl) <| OBk.sg 94 H [] [0, 1, 8, 9, 10, 61, 62] 2 [(0, .d (.list 5 (List.map encNote p0))), (1, vI p1), (8, .own 1 (List.map D.str y2.1)), (9, vI y2.2), (10, vI v11), (61, vI v11), (62, .lent (.slot 8) 1 (List.map D.str y2.1))] (by kernel_rfl) (by kernel_rfl) <| OBk.on 94 H (d := some 63) [0, 1, 8, 9, 10, 61, 63] [(0, .d (.list 5 (List.map encNote p0))), (1, vI p1), (8, .own 1 (List.map D.str y2.1)), (9, vI y2.2), (10, vI v11), (61, vI v11), (63, vI (y2.1.length : Int))] (by kernel_rfl) (BAt.len (enc := D.str) (xs := y2.1) (by kernel_rfl)) (by kernel_rfl) <| OBk.sg 94 H [] [0, 1, 8, 9, 10, 65] 2 [(0, .d (.list 5 (List.map encNote p0))), (1, vI p1), (8, .own 1 (List.map D.str y2.1)), (9, vI y2.2), (10, vI v11), (65, vB (v11 == (y2.1.length : Int)))] (by kernel_rfl) (by kernel_rfl) ?_
                refine OBk.case (v11 == (y2.1.length : Int)) (fun b => (sp 94 [(0, .d (.list 5 (List.map encNote p0))), (1, vI p1), (8, .own 1 (List.map D.str y2.1)), (9, vI y2.2), (10, vI v11), (65, vB b)] H)) (by kernel_rfl) (fun hc => ?_) (fun hc => ?_)
                · replace h := bif_t hc h
                  refine OBk.sg 94 H [] [0, 1, 8, 9, 10, 76] 11 [(0, .d (.list 5 (List.map encNote p0))), (1, vI p1), (8, .own 1 (List.map D.str y2.1)), (9, vI y2.2), (10, vI v11), (76, vB true)] (by kernel_rfl) (by kernel_rfl) <| OBk.done (by kernel_rfl) ?_
                  exact ⟨true, [], by kernel_rfl, h⟩
                · replace h := bif_f hc h
                  refine OBk.sg 94 H [] [0, 1, 8, 9, 10, 65, 66, 67] 2 [(0, .d (.list 5 (List.map encNote p0))), (1, vI p1), (8, .own 1 (List.map D.str y2.1)), (9, vI y2.2), (10, vI v11), (65, vB false), (66, .lent (.slot 8) 1 (List.map D.str y2.1)), (67, vI v11)] (by kernel_rfl) (by kernel_rfl) ?_
                  obtain ⟨x14, hx, h⟩ := bind_inv h
                  refine OBk.on 94 H (d := some 68) (s := lendP (some (.slot 8)) (Go.Sh.D.cells (D.str x14))) [0, 1, 8, 9, 10, 65, 68] [(0, .d (.list 5 (List.map encNote p0))), (1, vI p1), (8, .own 1 (List.map D.str y2.1)), (9, vI y2.2), (10, vI v11), (65, vB false), (68, .lptr (.slot 8) [.str x14])] (by kernel_rfl) (BAt.index (n := 1) hx (by kernel_rfl)) (by kernel_rfl) <| OBk.sg 94 H [] [0, 1, 8, 9, 10, 65, 69, 70, 71] 3 [(0, .d (.list 5 (List.map encNote p0))), (1, vI p1), (8, .own 1 (List.map D.str y2.1)), (9, vI y2.2), (10, vI v11), (65, vB false), (69, vS x14), (70, .d (.list 5 (List.map encNote p0))), (71, vI y2.2)] (by kernel_rfl) (by kernel_rfl) ?_
                  obtain ⟨x15, hx, h⟩ := bind_inv h
                  refine OBk.on 94 H (d := some 72) (s := lendP none (Go.Sh.D.cells (encNote x15))) [0, 1, 8, 9, 10, 65, 69, 72] [(0, .d (.list 5 (List.map encNote p0))), (1, vI p1), (8, .own 1 (List.map D.str y2.1)), (9, vI y2.2), (10, vI v11), (65, vB false), (69, vS x14), (72, .d (.dptr [.int .i64 x15.Kind, .int .i64 x15.Unit, .str x15.Key, .bool x15.Has, .str x15.Text]))] (by kernel_rfl) (BAt.index (n := 5) hx (by kernel_rfl)) (by kernel_rfl) <| OBk.sg 94 H [] [0, 1, 8, 9, 10, 76] 4 [(0, .d (.list 5 (List.map encNote p0))), (1, vI p1), (8, .own 1 (List.map D.str y2.1)), (9, vI y2.2), (10, vI v11), (76, vB (!(x14 == x15.Key)))] (by kernel_rfl) (by kernel_rfl) <| OBk.done (by kernel_rfl) ?_
                  exact ⟨(!(x14 == x15.Key)), [], by kernel_rfl, h⟩
        · refine SW.regionK <| OWk.sg 94 H [] [0, 1, 8, 9, 28, 29] 2 [(0, .d (.list 5 (List.map encNote p0))), (1, vI p1), (8, .own 1 (List.map D.str y2.1)), (9, vI y2.2), (28, .d (.list 5 (List.map encNote p0))), (29, vI y2.2)] (by kernel_rfl) ?_
          obtain ⟨x5, hx, h⟩ := bind_inv h
          refine OWk.on 94 H (d := some 30) (s := lendP none (Go.Sh.D.cells (encNote x5))) [0, 1, 8, 9, 30] [(0, .d (.list 5 (List.map encNote p0))), (1, vI p1), (8, .own 1 (List.map D.str y2.1)), (9, vI y2.2), (30, .d (.dptr [.int .i64 x5.Kind, .int .i64 x5.Unit, .str x5.Key, .bool x5.Has, .str x5.Text]))] (BAt.index (n := 5) hx (by kernel_rfl)) (by kernel_rfl) <| OWk.sg 94 H [] [0, 1, 8, 9, 35] 5 [(0, .d (.list 5 (List.map encNote p0))), (1, vI p1), (8, .own 1 (List.map D.str y2.1)), (9, vI y2.2), (35, vB (x5.Unit != p1))] (by kernel_rfl) ?_
          refine OWk.case (x5.Unit != p1) (fun b => (sp 94 [(0, .d (.list 5 (List.map encNote p0))), (1, vI p1), (8, .own 1 (List.map D.str y2.1)), (9, vI y2.2), (35, vB b)] H)) (by kernel_rfl) (fun hc => ?_) (fun hc => ?_)
          · replace h := bif_t hc h
            refine OWk.sg 94 H [] [0, 1, 8, 9, 42] 7 [(0, .d (.list 5 (List.map encNote p0))), (1, vI p1), (8, .own 1 (List.map D.str y2.1)), (9, vI y2.2), (42, vB true)] (by kernel_rfl) <| OWk.done (by kernel_rfl) ?_
            exact ⟨true, [], by kernel_rfl, h⟩
          · replace h := bif_f hc h
            refine OWk.sg 94 H [] [0, 1, 8, 9, 35, 36, 37] 2 [(0, .d (.list 5 (List.map encNote p0))), (1, vI p1), (8, .own 1 (List.map D.str y2.1)), (9, vI y2.2), (35, vB false), (36, .d (.list 5 (List.map encNote p0))), (37, vI y2.2)] (by kernel_rfl) ?_
            obtain ⟨x6, hx, h⟩ := bind_inv h
            refine OWk.on 94 H (d := some 38) (s := lendP none (Go.Sh.D.cells (encNote x6))) [0, 1, 8, 9, 35, 38] [(0, .d (.list 5 (List.map encNote p0))), (1, vI p1), (8, .own 1 (List.map D.str y2.1)), (9, vI y2.2), (35, vB false), (38, .d (.dptr [.int .i64 x6.Kind, .int .i64 x6.Unit, .str x6.Key, .bool x6.Has, .str x6.Text]))] (BAt.index (n := 5) hx (by kernel_rfl)) (by kernel_rfl) <| OWk.sg 94 H [] [0, 1, 8, 9, 42] 4 [(0, .d (.list 5 (List.map encNote p0))), (1, vI p1), (8, .own 1 (List.map D.str y2.1)), (9, vI y2.2), (42, vB (x6.Key == []))] (by kernel_rfl) <| OWk.done (by kernel_rfl) ?_
            exact ⟨(x6.Key == []), [], by kernel_rfl, h⟩
      · replace h := bif_f hc h
        refine SW.kp 94 H [8] [(8, .own 1 (List.map D.str y2.1))] (by kernel_rfl) <| SW.exit <| thenS_e ?_
        cases h
        refine thenS_e ?_
        exact ⟨_, rfl, ⟨rfl, rfl⟩⟩
    · rintro _ _ ⟨rfl, rfl⟩
      refine blockS_hit <| thenS_n <| SW.seq <| SW.regionK <| OWk.sg 94 H [93] [4, 5] 3 [(4, .own 1 (List.map D.str v23)), (5, vI 0)] (by kernel_rfl) <| OWk.done (by kernel_rfl) <| thenS_n <| SW.ret ?_
      cases h
      exact EndQ.ret [] (by kernel_rfl) rfl
def r03_SameNames_l1 (fuel : Nat) (p0 : (List (List UInt8))) (p1 : (List (List UInt8))) (y1 : Int) : Option ((Int) ⊕ ((Unit) ⊕ ((Bool)))) :=
  bif (decide (y1 < (p0.length : Int))) then
    (idx p0 y1).bind fun x2 =>
    (idx p1 y1).bind fun x3 =>
    bif (!(x2 == x3)) then
      some (.inr (.inr false))
    else
      some (.inl (IntKind.wrap .i64 (y1 + 1)))
  else
    some (.inr (.inl ()))
def r03_SameNames (fuel : Nat) (p0 : (List (List UInt8))) (p1 : (List (List UInt8))) : Option (Bool) :=
  bif ((p0.length : Int) != (p1.length : Int)) then
    some false
  else
    (iter (r03_SameNames_l1 fuel p0 p1) fuel 0).bind (Sum.elim (fun v5 =>
      some true) (fun r6 =>
      some r6))
theorem r03_SameNames_ok {fuel : Nat} {p0 : (List (List UInt8))} {p1 : (List (List UInt8))} {r : Bool} (h : r03_SameNames fuel p0 p1 = some r) : PC Tryz.prog 17 [.d (.list 1 (List.map D.str p0)), .d (.list 1 (List.map D.str p1))] (vB r) := by
  refine PC.of_SW Tryz.func17 rfl fun H => ?_
  unfold r03_SameNames at h
  refine SW.kp 26 H [0, 1] [(0, .d (.list 1 (List.map D.str p0))), (1, .d (.list 1 (List.map D.str p1)))] (by kernel_rfl) <| SW.seq <| SW.regionK <| OWk.sg 26 H [] [0, 1] 1 [(0, .d (.list 1 (List.map D.str p0))), (1, .d (.list 1 (List.map D.str p1)))] (by kernel_rfl) <| OWk.done (by kernel_rfl) <| thenS_n <| SW.seq <| SW.seq <| SW.regionK <| OWk.sg 26 H [] [0, 1, 6] 1 [(0, .d (.list 1 (List.map D.str p0))), (1, .d (.list 1 (List.map D.str p1))), (6, .d (.list 1 (List.map D.str p0)))] (by kernel_rfl) <| OWk.on 26 H (d := some 7) [0, 1, 7] [(0, .d (.list 1 (List.map D.str p0))), (1, .d (.list 1 (List.map D.str p1))), (7, vI (p0.length : Int))] (BAt.len (enc := D.str) (xs := p0) (by kernel_rfl)) (by kernel_rfl) <| OWk.sg 26 H [] [0, 1, 7, 8] 1 [(0, .d (.list 1 (List.map D.str p0))), (1, .d (.list 1 (List.map D.str p1))), (7, vI (p0.length : Int)), (8, .d (.list 1 (List.map D.str p1)))] (by kernel_rfl) <| OWk.on 26 H (d := some 9) [0, 1, 7, 9] [(0, .d (.list 1 (List.map D.str p0))), (1, .d (.list 1 (List.map D.str p1))), (7, vI (p0.length : Int)), (9, vI (p1.length : Int))] (BAt.len (enc := D.str) (xs := p1) (by kernel_rfl)) (by kernel_rfl) <| OWk.sg 26 H [] [0, 1, 10] 1 [(0, .d (.list 1 (List.map D.str p0))), (1, .d (.list 1 (List.map D.str p1))), (10, vB ((p0.length : Int) != (p1.length : Int)))] (by kernel_rfl) <| OWk.done (by kernel_rfl) <| thenS_n ?_
  refine SW.condB (b := ((p0.length : Int) != (p1.length : Int))) (by kernel_rfl) (fun hc => ?_) (fun hc => ?_)
  · replace h := bif_t hc h
    refine SW.seq <| SW.regionK <| OWk.sg 26 H [] [4] 1 [(4, vB false)] (by kernel_rfl) <| OWk.done (by kernel_rfl) <| thenS_n <| SW.ret <| thenS_r ?_
    cases h
    exact EndQ.ret [] (by kernel_rfl) rfl
  · replace h := bif_f hc h
    refine SW.skip <| thenS_n <| SW.seq <| SW.seq <| SW.regionK <| OWk.sg 26 H [] [0, 1, 5] 1 [(0, .d (.list 1 (List.map D.str p0))), (1, .d (.list 1 (List.map D.str p1))), (5, vI 0)] (by kernel_rfl) <| OWk.done (by kernel_rfl) <| thenS_n <| SW.block ?_
    obtain ⟨z4, hit, h⟩ := bind_inv h
    refine SW.it 26 H [0, 1, 5] (fun y1 => [(0, .d (.list 1 (List.map D.str p0))), (1, .d (.list 1 (List.map D.str p1))), (5, vI y1)]) (fun b e s => ((∃ v5, b = (.inl v5) ∧ (e = .exit 0 ∧ s = (sp 26 [] H))) ∨ (∃ r6, b = (.inr r6) ∧ (e = .ret ∧ EndQ Tryz.prog Tryz.f17.results.toList H (vB r6) .ret s)))) hit (by kernel_rfl) (fun y1 o h => ?_) ?_
    · unfold r03_SameNames_l1 at h
      refine SW.seq <| SW.seq <| SW.regionK <| OWk.sg 26 H [] [0, 1, 5, 11, 12] 2 [(0, .d (.list 1 (List.map D.str p0))), (1, .d (.list 1 (List.map D.str p1))), (5, vI y1), (11, vI y1), (12, .d (.list 1 (List.map D.str p0)))] (by kernel_rfl) <| OWk.on 26 H (d := some 13) [0, 1, 5, 11, 13] [(0, .d (.list 1 (List.map D.str p0))), (1, .d (.list 1 (List.map D.str p1))), (5, vI y1), (11, vI y1), (13, vI (p0.length : Int))] (BAt.len (enc := D.str) (xs := p0) (by kernel_rfl)) (by kernel_rfl) <| OWk.sg 26 H [] [0, 1, 5, 14] 1 [(0, .d (.list 1 (List.map D.str p0))), (1, .d (.list 1 (List.map D.str p1))), (5, vI y1), (14, vB (decide (y1 < (p0.length : Int))))] (by kernel_rfl) <| OWk.done (by kernel_rfl) <| thenS_n ?_
      refine SW.condB (b := (decide (y1 < (p0.length : Int)))) (by kernel_rfl) (fun hc => ?_) (fun hc => ?_)
      · replace h := bif_t hc h
        refine SW.skip <| thenS_n <| SW.seq <| SW.block <| SW.seq <| SW.regionDk (by kernel_rfl) (by kernel_rfl) <| OBk.sg 26 H [] [0, 1, 5, 17, 18] 2 [(0, .d (.list 1 (List.map D.str p0))), (1, .d (.list 1 (List.map D.str p1))), (5, vI y1), (17, .d (.list 1 (List.map D.str p0))), (18, vI y1)] (by kernel_rfl) (by kernel_rfl) ?_
        obtain ⟨x2, hx, h⟩ := bind_inv h
        refine OBk.on 26 H (d := some 19) (s := lendP none (Go.Sh.D.cells (D.str x2))) [0, 1, 5, 19] [(0, .d (.list 1 (List.map D.str p0))), (1, .d (.list 1 (List.map D.str p1))), (5, vI y1), (19, .d (.dptr [.str x2]))] (by kernel_rfl) (BAt.index (n := 1) hx (by kernel_rfl)) (by kernel_rfl) <| OBk.sg 26 H [] [0, 1, 5, 20, 21, 22] 3 [(0, .d (.list 1 (List.map D.str p0))), (1, .d (.list 1 (List.map D.str p1))), (5, vI y1), (20, vS x2), (21, .d (.list 1 (List.map D.str p1))), (22, vI y1)] (by kernel_rfl) (by kernel_rfl) ?_
        obtain ⟨x3, hx, h⟩ := bind_inv h
        refine OBk.on 26 H (d := some 23) (s := lendP none (Go.Sh.D.cells (D.str x3))) [0, 1, 5, 20, 23] [(0, .d (.list 1 (List.map D.str p0))), (1, .d (.list 1 (List.map D.str p1))), (5, vI y1), (20, vS x2), (23, .d (.dptr [.str x3]))] (by kernel_rfl) (BAt.index (n := 1) hx (by kernel_rfl)) (by kernel_rfl) <| OBk.sg 26 H [] [0, 1, 5, 25] 2 [(0, .d (.list 1 (List.map D.str p0))), (1, .d (.list 1 (List.map D.str p1))), (5, vI y1), (25, vB (!(x2 == x3)))] (by kernel_rfl) (by kernel_rfl) <| OBk.done (by kernel_rfl) <| thenS_n ?_
        refine SW.condB (b := (!(x2 == x3))) (by kernel_rfl) (fun hc => ?_) (fun hc => ?_)
        · replace h := bif_t hc h
          refine SW.seq <| SW.regionK <| OWk.sg 26 H [] [4] 1 [(4, vB false)] (by kernel_rfl) <| OWk.done (by kernel_rfl) <| thenS_n <| SW.ret <| blockS_r <| thenS_r ?_
          cases h
          refine thenS_r ?_
          exact ⟨_, rfl, .inr (⟨false, rfl, rfl, EndQ.ret [] (by kernel_rfl) rfl⟩)⟩
        · replace h := bif_f hc h
          refine SW.skip <| blockS_n <| thenS_n <| SW.regionK <| OWk.sg 26 H [] [0, 1, 5] 3 [(0, .d (.list 1 (List.map D.str p0))), (1, .d (.list 1 (List.map D.str p1))), (5, vI (IntKind.wrap .i64 (y1 + 1)))] (by kernel_rfl) <| OWk.done (by kernel_rfl) ?_
          cases h
          exact ⟨(IntKind.wrap .i64 (y1 + 1)), rfl, by kernel_rfl⟩
      · replace h := bif_f hc h
        refine SW.kp 26 H [] [] (by kernel_rfl) <| SW.exit <| thenS_e ?_
        cases h
        refine thenS_e ?_
        exact ⟨_, rfl, .inl ⟨(), rfl, rfl, rfl⟩⟩
    · rintro _ _ (⟨v5, rfl, rfl, rfl⟩ | ⟨r6, rfl, rfl, hE⟩)
      · replace h := sum_l h
        refine blockS_hit <| thenS_n <| SW.seq <| SW.regionK <| OWk.sg 26 H [] [4] 1 [(4, vB true)] (by kernel_rfl) <| OWk.done (by kernel_rfl) <| thenS_n <| SW.ret ?_
        cases h
        exact EndQ.ret [] (by kernel_rfl) rfl
      · replace h := sum_r h
        refine blockS_r <| thenS_r ?_
        cases h
        exact hE
def j_Dump_l1 (fuel : Nat) (p0 : (List Note)) (p1 : (List UInt8)) (y2 : Int) : Option ((Int) ⊕ ((Unit) ⊕ ((Int × Int)))) :=
  bif (decide (y2 ≥ 0)) then
    (idx p0 y2).bind fun x3 =>
    bif (x3.Kind == 6) then
      (idx p0 y2).bind fun x4 =>
      bif (x4.Text == p1) then
        some (.inr (.inr ((IntKind.wrap .i64 (y2 + 1)), 0)))
      else
        some (.inl (IntKind.wrap .i64 (y2 - 1)))
    else
      some (.inl (IntKind.wrap .i64 (y2 - 1)))
  else
    some (.inr (.inl ()))
def j_Dump (fuel : Nat) (p0 : (List Note)) (p1 : (List UInt8)) : Option (Int × Int) :=
  (j_valid fuel p0).bind fun r1 =>
  bif (!r1) then
    some (0, 1)
  else
    (iter (j_Dump_l1 fuel p0 p1) fuel (IntKind.wrap .i64 ((p0.length : Int) - 1))).bind (Sum.elim (fun v6 =>
      some (0, 8)) (fun r7 =>
      some r7))
theorem j_Dump_ok {fuel : Nat} {p0 : (List Note)} {p1 : (List UInt8)} {r : Int × Int} (h : j_Dump fuel p0 p1 = some r) : PC Tryz.prog 18 [.d (.list 5 (List.map encNote p0)), vS p1] (.tup [vI r.1, vI r.2]) := by
  refine PC.of_SW Tryz.func18 rfl fun H => ?_
  unfold j_Dump at h
  refine SW.kp 34 H [0, 1] [(0, .d (.list 5 (List.map encNote p0))), (1, vS p1)] (by kernel_rfl) <| SW.seq <| SW.regionK <| OWk.sg 34 H [] [0, 1] 2 [(0, .d (.list 5 (List.map encNote p0))), (1, vS p1)] (by kernel_rfl) <| OWk.done (by kernel_rfl) <| thenS_n <| SW.seq <| SW.seq <| SW.regionK <| OWk.sg 34 H [] [0, 1, 7] 1 [(0, .d (.list 5 (List.map encNote p0))), (1, vS p1), (7, .d (.list 5 (List.map encNote p0)))] (by kernel_rfl) ?_
  obtain ⟨r1, hr, h⟩ := bind_inv h
  refine OWk.cl 34 H (d := some 8) (ls := []) (gs := []) [] [0, 1, 8] [(0, .d (.list 5 (List.map encNote p0))), (1, vS p1), (8, vB r1)] (j_valid_ok hr) (by kernel_rfl) (by kernel_rfl) (by kernel_rfl) <| OWk.sg 34 H [] [0, 1, 9] 1 [(0, .d (.list 5 (List.map encNote p0))), (1, vS p1), (9, vB (!r1))] (by kernel_rfl) <| OWk.done (by kernel_rfl) <| thenS_n ?_
  refine SW.condB (b := (!r1)) (by kernel_rfl) (fun hc => ?_) (fun hc => ?_)
  · replace h := bif_t hc h
    refine SW.seq <| SW.regionK <| OWk.sg 34 H [] [4, 5] 2 [(4, vI 0), (5, vI 1)] (by kernel_rfl) <| OWk.done (by kernel_rfl) <| thenS_n <| SW.ret <| thenS_r ?_
    cases h
    exact EndQ.ret [] (by kernel_rfl) rfl
  · replace h := bif_f hc h
    refine SW.skip <| thenS_n <| SW.seq <| SW.seq <| SW.regionK <| OWk.sg 34 H [] [0, 1, 10] 1 [(0, .d (.list 5 (List.map encNote p0))), (1, vS p1), (10, .d (.list 5 (List.map encNote p0)))] (by kernel_rfl) <| OWk.on 34 H (d := some 11) [0, 1, 11] [(0, .d (.list 5 (List.map encNote p0))), (1, vS p1), (11, vI (p0.length : Int))] (BAt.len (enc := encNote) (xs := p0) (by kernel_rfl)) (by kernel_rfl) <| OWk.sg 34 H [] [0, 1, 6] 2 [(0, .d (.list 5 (List.map encNote p0))), (1, vS p1), (6, vI (IntKind.wrap .i64 ((p0.length : Int) - 1)))] (by kernel_rfl) <| OWk.done (by kernel_rfl) <| thenS_n <| SW.block ?_
    obtain ⟨z5, hit, h⟩ := bind_inv h
    refine SW.it 34 H [0, 1, 6] (fun y2 => [(0, .d (.list 5 (List.map encNote p0))), (1, vS p1), (6, vI y2)]) (fun b e s => ((∃ v6, b = (.inl v6) ∧ (e = .exit 0 ∧ s = (sp 34 [] H))) ∨ (∃ r7, b = (.inr r7) ∧ (e = .ret ∧ EndQ Tryz.prog Tryz.f18.results.toList H (.tup [vI r7.1, vI r7.2]) .ret s)))) hit (by kernel_rfl) (fun y2 o h => ?_) ?_
    · unfold j_Dump_l1 at h
      refine SW.seq <| SW.seq <| SW.regionK <| OWk.sg 34 H [] [0, 1, 6, 14] 2 [(0, .d (.list 5 (List.map encNote p0))), (1, vS p1), (6, vI y2), (14, vB (decide (y2 ≥ 0)))] (by kernel_rfl) <| OWk.done (by kernel_rfl) <| thenS_n ?_
      refine SW.condB (b := (decide (y2 ≥ 0))) (by kernel_rfl) (fun hc => ?_) (fun hc => ?_)
      · replace h := bif_t hc h
        refine SW.skip <| thenS_n <| SW.seq <| SW.block <| SW.seq <| SW.regionK <| OWk.sg 34 H [] [0, 1, 6, 17, 18] 2 [(0, .d (.list 5 (List.map encNote p0))), (1, vS p1), (6, vI y2), (17, .d (.list 5 (List.map encNote p0))), (18, vI y2)] (by kernel_rfl) ?_
        obtain ⟨x3, hx, h⟩ := bind_inv h
        refine OWk.on 34 H (d := some 19) (s := lendP none (Go.Sh.D.cells (encNote x3))) [0, 1, 6, 19] [(0, .d (.list 5 (List.map encNote p0))), (1, vS p1), (6, vI y2), (19, .d (.dptr [.int .i64 x3.Kind, .int .i64 x3.Unit, .str x3.Key, .bool x3.Has, .str x3.Text]))] (BAt.index (n := 5) hx (by kernel_rfl)) (by kernel_rfl) <| OWk.sg 34 H [] [0, 1, 6, 23] 4 [(0, .d (.list 5 (List.map encNote p0))), (1, vS p1), (6, vI y2), (23, vB (x3.Kind == 6))] (by kernel_rfl) ?_
        refine OWk.case (x3.Kind == 6) (fun b => (sp 34 [(0, .d (.list 5 (List.map encNote p0))), (1, vS p1), (6, vI y2), (23, vB b)] H)) (by kernel_rfl) (fun hc => ?_) (fun hc => ?_)
        · replace h := bif_t hc h
          refine OWk.sg 34 H [] [0, 1, 6, 23, 24, 25] 2 [(0, .d (.list 5 (List.map encNote p0))), (1, vS p1), (6, vI y2), (23, vB true), (24, .d (.list 5 (List.map encNote p0))), (25, vI y2)] (by kernel_rfl) ?_
          obtain ⟨x4, hx, h⟩ := bind_inv h
          refine OWk.on 34 H (d := some 26) (s := lendP none (Go.Sh.D.cells (encNote x4))) [0, 1, 6, 23, 26] [(0, .d (.list 5 (List.map encNote p0))), (1, vS p1), (6, vI y2), (23, vB true), (26, .d (.dptr [.int .i64 x4.Kind, .int .i64 x4.Unit, .str x4.Key, .bool x4.Has, .str x4.Text]))] (BAt.index (n := 5) hx (by kernel_rfl)) (by kernel_rfl) <| OWk.sg 34 H [] [0, 1, 6, 31] 5 [(0, .d (.list 5 (List.map encNote p0))), (1, vS p1), (6, vI y2), (31, vB (x4.Text == p1))] (by kernel_rfl) <| OWk.done (by kernel_rfl) <| thenS_n ?_
          refine SW.condB (b := (x4.Text == p1)) (by kernel_rfl) (fun hc => ?_) (fun hc => ?_)
          · replace h := bif_t hc h
            refine SW.seq <| SW.regionK <| OWk.sg 34 H [] [4, 5] 4 [(4, vI (IntKind.wrap .i64 (y2 + 1))), (5, vI 0)] (by kernel_rfl) <| OWk.done (by kernel_rfl) <| thenS_n <| SW.ret <| blockS_r <| thenS_r ?_
            cases h
            refine thenS_r ?_
            exact ⟨_, rfl, .inr (⟨((IntKind.wrap .i64 (y2 + 1)), 0), rfl, rfl, EndQ.ret [] (by kernel_rfl) rfl⟩)⟩
          · replace h := bif_f hc h
            refine SW.skip <| blockS_n <| thenS_n <| SW.regionK <| OWk.sg 34 H [] [0, 1, 6] 3 [(0, .d (.list 5 (List.map encNote p0))), (1, vS p1), (6, vI (IntKind.wrap .i64 (y2 - 1)))] (by kernel_rfl) <| OWk.done (by kernel_rfl) ?_
            cases h
            exact ⟨(IntKind.wrap .i64 (y2 - 1)), rfl, by kernel_rfl⟩
        · replace h := bif_f hc h
          refine OWk.sg 34 H [] [0, 1, 6, 31] 8 [(0, .d (.list 5 (List.map encNote p0))), (1, vS p1), (6, vI y2), (31, vB false)] (by kernel_rfl) <| OWk.done (by kernel_rfl) <| thenS_n <| SW.condF (by kernel_rfl) <| SW.skip <| blockS_n <| thenS_n <| SW.regionK <| OWk.sg 34 H [] [0, 1, 6] 3 [(0, .d (.list 5 (List.map encNote p0))), (1, vS p1), (6, vI (IntKind.wrap .i64 (y2 - 1)))] (by kernel_rfl) <| OWk.done (by kernel_rfl) ?_
          cases h
          exact ⟨(IntKind.wrap .i64 (y2 - 1)), rfl, by kernel_rfl⟩
      · replace h := bif_f hc h
        refine SW.kp 34 H [] [] (by kernel_rfl) <| SW.exit <| thenS_e ?_
        cases h
        refine thenS_e ?_
        exact ⟨_, rfl, .inl ⟨(), rfl, rfl, rfl⟩⟩
    · rintro _ _ (⟨v6, rfl, rfl, rfl⟩ | ⟨r7, rfl, rfl, hE⟩)
      · replace h := sum_l h
        refine blockS_hit <| thenS_n <| SW.seq <| SW.regionK <| OWk.sg 34 H [] [4, 5] 2 [(4, vI 0), (5, vI 8)] (by kernel_rfl) <| OWk.done (by kernel_rfl) <| thenS_n <| SW.ret ?_
        cases h
        exact EndQ.ret [] (by kernel_rfl) rfl
      · replace h := sum_r h
        refine blockS_r <| thenS_r ?_
        cases h
        exact hE
def r_DumpAt_l1 (fuel : Nat) (p0 : (List Note)) (p1 : (List UInt8)) (y2 : Int) : Option ((Int) ⊕ ((Unit) ⊕ ((Int × Int)))) :=
  bif (decide (y2 ≥ 0)) then
    (idx p0 y2).bind fun x3 =>
    bif (x3.Kind == 6) then
      (idx p0 y2).bind fun x4 =>
      bif (x4.Text == p1) then
        some (.inr (.inr ((IntKind.wrap .i64 (y2 + 1)), 0)))
      else
        some (.inl (IntKind.wrap .i64 (y2 - 1)))
    else
      some (.inl (IntKind.wrap .i64 (y2 - 1)))
  else
    some (.inr (.inl ()))
def r_DumpAt (fuel : Nat) (p0 : (List Note)) (p1 : (List UInt8)) : Option (Int × Int) :=
  (r_notes fuel p0).bind fun r1 =>
  bif (!r1) then
    some (0, 1)
  else
    (iter (r_DumpAt_l1 fuel p0 p1) fuel (IntKind.wrap .i64 ((p0.length : Int) - 1))).bind (Sum.elim (fun v6 =>
      some (0, 8)) (fun r7 =>
      some r7))
theorem r_DumpAt_ok {fuel : Nat} {p0 : (List Note)} {p1 : (List UInt8)} {r : Int × Int} (h : r_DumpAt fuel p0 p1 = some r) : PC Tryz.prog 19 [.d (.list 5 (List.map encNote p0)), vS p1] (.tup [vI r.1, vI r.2]) := by
  refine PC.of_SW Tryz.func19 rfl fun H => ?_
  unfold r_DumpAt at h
  refine SW.kp 34 H [0, 1] [(0, .d (.list 5 (List.map encNote p0))), (1, vS p1)] (by kernel_rfl) <| SW.seq <| SW.regionK <| OWk.sg 34 H [] [0, 1] 2 [(0, .d (.list 5 (List.map encNote p0))), (1, vS p1)] (by kernel_rfl) <| OWk.done (by kernel_rfl) <| thenS_n <| SW.seq <| SW.seq <| SW.regionK <| OWk.sg 34 H [] [0, 1, 7] 1 [(0, .d (.list 5 (List.map encNote p0))), (1, vS p1), (7, .d (.list 5 (List.map encNote p0)))] (by kernel_rfl) ?_
  obtain ⟨r1, hr, h⟩ := bind_inv h
  refine OWk.cl 34 H (d := some 8) (ls := []) (gs := []) [] [0, 1, 8] [(0, .d (.list 5 (List.map encNote p0))), (1, vS p1), (8, vB r1)] (r_notes_ok hr) (by kernel_rfl) (by kernel_rfl) (by kernel_rfl) <| OWk.sg 34 H [] [0, 1, 9] 1 [(0, .d (.list 5 (List.map encNote p0))), (1, vS p1), (9, vB (!r1))] (by kernel_rfl) <| OWk.done (by kernel_rfl) <| thenS_n ?_
  refine SW.condB (b := (!r1)) (by kernel_rfl) (fun hc => ?_) (fun hc => ?_)
  · replace h := bif_t hc h
    refine SW.seq <| SW.regionK <| OWk.sg 34 H [] [4, 5] 2 [(4, vI 0), (5, vI 1)] (by kernel_rfl) <| OWk.done (by kernel_rfl) <| thenS_n <| SW.ret <| thenS_r ?_
    cases h
    exact EndQ.ret [] (by kernel_rfl) rfl
  · replace h := bif_f hc h
    refine SW.skip <| thenS_n <| SW.seq <| SW.seq <| SW.regionK <| OWk.sg 34 H [] [0, 1, 10] 1 [(0, .d (.list 5 (List.map encNote p0))), (1, vS p1), (10, .d (.list 5 (List.map encNote p0)))] (by kernel_rfl) <| OWk.on 34 H (d := some 11) [0, 1, 11] [(0, .d (.list 5 (List.map encNote p0))), (1, vS p1), (11, vI (p0.length : Int))] (BAt.len (enc := encNote) (xs := p0) (by kernel_rfl)) (by kernel_rfl) <| OWk.sg 34 H [] [0, 1, 6] 2 [(0, .d (.list 5 (List.map encNote p0))), (1, vS p1), (6, vI (IntKind.wrap .i64 ((p0.length : Int) - 1)))] (by kernel_rfl) <| OWk.done (by kernel_rfl) <| thenS_n <| SW.block ?_
    obtain ⟨z5, hit, h⟩ := bind_inv h
    refine SW.it 34 H [0, 1, 6] (fun y2 => [(0, .d (.list 5 (List.map encNote p0))), (1, vS p1), (6, vI y2)]) (fun b e s => ((∃ v6, b = (.inl v6) ∧ (e = .exit 0 ∧ s = (sp 34 [] H))) ∨ (∃ r7, b = (.inr r7) ∧ (e = .ret ∧ EndQ Tryz.prog Tryz.f19.results.toList H (.tup [vI r7.1, vI r7.2]) .ret s)))) hit (by kernel_rfl) (fun y2 o h => ?_) ?_
    · unfold r_DumpAt_l1 at h
      refine SW.seq <| SW.seq <| SW.regionK <| OWk.sg 34 H [] [0, 1, 6, 14] 2 [(0, .d (.list 5 (List.map encNote p0))), (1, vS p1), (6, vI y2), (14, vB (decide (y2 ≥ 0)))] (by kernel_rfl) <| OWk.done (by kernel_rfl) <| thenS_n ?_
      refine SW.condB (b := (decide (y2 ≥ 0))) (by kernel_rfl) (fun hc => ?_) (fun hc => ?_)
      · replace h := bif_t hc h
        refine SW.skip <| thenS_n <| SW.seq <| SW.block <| SW.seq <| SW.regionK <| OWk.sg 34 H [] [0, 1, 6, 17, 18] 2 [(0, .d (.list 5 (List.map encNote p0))), (1, vS p1), (6, vI y2), (17, .d (.list 5 (List.map encNote p0))), (18, vI y2)] (by kernel_rfl) ?_
        obtain ⟨x3, hx, h⟩ := bind_inv h
        refine OWk.on 34 H (d := some 19) (s := lendP none (Go.Sh.D.cells (encNote x3))) [0, 1, 6, 19] [(0, .d (.list 5 (List.map encNote p0))), (1, vS p1), (6, vI y2), (19, .d (.dptr [.int .i64 x3.Kind, .int .i64 x3.Unit, .str x3.Key, .bool x3.Has, .str x3.Text]))] (BAt.index (n := 5) hx (by kernel_rfl)) (by kernel_rfl) <| OWk.sg 34 H [] [0, 1, 6, 23] 4 [(0, .d (.list 5 (List.map encNote p0))), (1, vS p1), (6, vI y2), (23, vB (x3.Kind == 6))] (by kernel_rfl) ?_
        refine OWk.case (x3.Kind == 6) (fun b => (sp 34 [(0, .d (.list 5 (List.map encNote p0))), (1, vS p1), (6, vI y2), (23, vB b)] H)) (by kernel_rfl) (fun hc => ?_) (fun hc => ?_)
        · replace h := bif_t hc h
          refine OWk.sg 34 H [] [0, 1, 6, 23, 24, 25] 2 [(0, .d (.list 5 (List.map encNote p0))), (1, vS p1), (6, vI y2), (23, vB true), (24, .d (.list 5 (List.map encNote p0))), (25, vI y2)] (by kernel_rfl) ?_
          obtain ⟨x4, hx, h⟩ := bind_inv h
          refine OWk.on 34 H (d := some 26) (s := lendP none (Go.Sh.D.cells (encNote x4))) [0, 1, 6, 23, 26] [(0, .d (.list 5 (List.map encNote p0))), (1, vS p1), (6, vI y2), (23, vB true), (26, .d (.dptr [.int .i64 x4.Kind, .int .i64 x4.Unit, .str x4.Key, .bool x4.Has, .str x4.Text]))] (BAt.index (n := 5) hx (by kernel_rfl)) (by kernel_rfl) <| OWk.sg 34 H [] [0, 1, 6, 31] 5 [(0, .d (.list 5 (List.map encNote p0))), (1, vS p1), (6, vI y2), (31, vB (x4.Text == p1))] (by kernel_rfl) <| OWk.done (by kernel_rfl) <| thenS_n ?_
          refine SW.condB (b := (x4.Text == p1)) (by kernel_rfl) (fun hc => ?_) (fun hc => ?_)
          · replace h := bif_t hc h
            refine SW.seq <| SW.regionK <| OWk.sg 34 H [] [4, 5] 4 [(4, vI (IntKind.wrap .i64 (y2 + 1))), (5, vI 0)] (by kernel_rfl) <| OWk.done (by kernel_rfl) <| thenS_n <| SW.ret <| blockS_r <| thenS_r ?_
            cases h
            refine thenS_r ?_
            exact ⟨_, rfl, .inr (⟨((IntKind.wrap .i64 (y2 + 1)), 0), rfl, rfl, EndQ.ret [] (by kernel_rfl) rfl⟩)⟩
          · replace h := bif_f hc h
            refine SW.skip <| blockS_n <| thenS_n <| SW.regionK <| OWk.sg 34 H [] [0, 1, 6] 3 [(0, .d (.list 5 (List.map encNote p0))), (1, vS p1), (6, vI (IntKind.wrap .i64 (y2 - 1)))] (by kernel_rfl) <| OWk.done (by kernel_rfl) ?_
            cases h
            exact ⟨(IntKind.wrap .i64 (y2 - 1)), rfl, by kernel_rfl⟩
        · replace h := bif_f hc h
          refine OWk.sg 34 H [] [0, 1, 6, 31] 8 [(0, .d (.list 5 (List.map encNote p0))), (1, vS p1), (6, vI y2), (31, vB false)] (by kernel_rfl) <| OWk.done (by kernel_rfl) <| thenS_n <| SW.condF (by kernel_rfl) <| SW.skip <| blockS_n <| thenS_n <| SW.regionK <| OWk.sg 34 H [] [0, 1, 6] 3 [(0, .d (.list 5 (List.map encNote p0))), (1, vS p1), (6, vI (IntKind.wrap .i64 (y2 - 1)))] (by kernel_rfl) <| OWk.done (by kernel_rfl) ?_
          cases h
          exact ⟨(IntKind.wrap .i64 (y2 - 1)), rfl, by kernel_rfl⟩
      · replace h := bif_f hc h
        refine SW.kp 34 H [] [] (by kernel_rfl) <| SW.exit <| thenS_e ?_
        cases h
        refine thenS_e ?_
        exact ⟨_, rfl, .inl ⟨(), rfl, rfl, rfl⟩⟩
    · rintro _ _ (⟨v6, rfl, rfl, rfl⟩ | ⟨r7, rfl, rfl, hE⟩)
      · replace h := sum_l h
        refine blockS_hit <| thenS_n <| SW.seq <| SW.regionK <| OWk.sg 34 H [] [4, 5] 2 [(4, vI 0), (5, vI 8)] (by kernel_rfl) <| OWk.done (by kernel_rfl) <| thenS_n <| SW.ret ?_
        cases h
        exact EndQ.ret [] (by kernel_rfl) rfl
      · replace h := sum_r h
        refine blockS_r <| thenS_r ?_
        cases h
        exact hE
def slices_Clone_f39 (fuel : Nat) (p0 : (List Note)) : Option ((List Note)) :=
  nilB p0 fun b1 =>
  bif b1 then
    some ([] : List Note)
  else
    chk (decide ((([] : List Note) ++ p0).length ≤ room)) <|
    some (([] : List Note) ++ p0)
theorem slices_Clone_f39_ok {fuel : Nat} {p0 : (List Note)} {r : (List Note)} (h : slices_Clone_f39 fuel p0 = some r) : PC Tryz.prog 39 [.d (.list 5 (List.map encNote p0))] (.own 5 (List.map encNote r)) := by
  refine PC.of_SW Tryz.func39 rfl fun H => ?_
  unfold slices_Clone_f39 at h
  refine SW.kp 8 H [0] [(0, .d (.list 5 (List.map encNote p0)))] (by kernel_rfl) <| SW.seq <| SW.regionK <| OWk.sg 8 H [] [0] 1 [(0, .d (.list 5 (List.map encNote p0)))] (by kernel_rfl) <| OWk.done (by kernel_rfl) <| thenS_n <| SW.seq <| SW.seq <| SW.regionK <| OWk.sg 8 H [] [0, 3] 1 [(0, .d (.list 5 (List.map encNote p0))), (3, .d (.list 5 (List.map encNote p0)))] (by kernel_rfl) ?_
  refine OWk.nilq (xs := List.map encNote p0) (d := some 4) (e := true) 8 H [0, 4] (fun b1 => [(0, .d (.list 5 (List.map encNote p0))), (4, vB b1)]) (by kernel_rfl) (fun _ => by kernel_rfl) (fun b1 hnil => ?_)
  replace h := nilB_inv h b1 (fun e => List.map_eq_nil_iff.1 (hnil e))
  refine OWk.done (by kernel_rfl) <| thenS_n ?_
  refine SW.condB (b := b1) (by kernel_rfl) (fun hc => ?_) (fun hc => ?_)
  · replace h := bif_t hc h
    refine SW.seq <| SW.regionK <| OWk.sg 8 H [] [2] 1 [(2, .own 5 (List.map encNote ([] : List Note)))] (by kernel_rfl) <| OWk.done (by kernel_rfl) <| thenS_n <| SW.ret <| thenS_r ?_
    cases h
    exact EndQ.ret [] (by kernel_rfl) rfl
  · replace h := bif_f hc h
    refine SW.skip <| thenS_n <| SW.seq <| SW.regionK <| OWk.sg 8 H [5] [5, 6] 2 [(5, .own 5 (List.map encNote ([] : List Note))), (6, .d (.list 5 (List.map encNote p0)))] (by kernel_rfl) ?_
    obtain ⟨hk, h⟩ := chk_inv h
    refine OWk.app 8 H (s := 5) (d := 7) (w := 5) [7] (zs := List.map encNote (([] : List Note) ++ p0)) [(7, .own 5 (List.map encNote (([] : List Note) ++ p0)))] (ys := (List.map encNote p0)) (by kernel_rfl) (map_append') (room_map hk) (by kernel_rfl) <| OWk.sg 8 H [5] [2] 1 [(2, .own 5 (List.map encNote (([] : List Note) ++ p0)))] (by kernel_rfl) <| OWk.done (by kernel_rfl) <| thenS_n <| SW.ret ?_
    cases h
    exact EndQ.ret [] (by kernel_rfl) rfl
def j_Cut (fuel : Nat) (p0 : (List Note)) (p1 : Int) : Option ((List Note) × Int) :=
  (j_valid fuel p0).bind fun r1 =>
  bif (!r1) then
    some (([] : List Note), 1)
  else
    bif (decide (p1 < 0)) then
      some (([] : List Note), 7)
    else
      bif (decide (p1 > (p0.length : Int))) then
        some (([] : List Note), 7)
      else
        chk (slOk p0 0 p1) <|
        (slices_Clone_f39 fuel (sl p0 0 p1)).bind fun r2 =>
        some (r2, 0)
theorem j_Cut_ok {fuel : Nat} {p0 : (List Note)} {p1 : Int} {r : (List Note) × Int} (h : j_Cut fuel p0 p1 = some r) : PC Tryz.prog 20 [.d (.list 5 (List.map encNote p0)), vI p1] (.tup [.own 5 (List.map encNote r.1), vI r.2]) := by
  refine PC.of_SW Tryz.func20 rfl fun H => ?_
  unfold j_Cut at h
  refine SW.kp 21 H [0, 1] [(0, .d (.list 5 (List.map encNote p0))), (1, vI p1)] (by kernel_rfl) <| SW.seq <| SW.regionK <| OWk.sg 21 H [] [0, 1] 2 [(0, .d (.list 5 (List.map encNote p0))), (1, vI p1)] (by kernel_rfl) <| OWk.done (by kernel_rfl) <| thenS_n <| SW.seq <| SW.seq <| SW.regionK <| OWk.sg 21 H [] [0, 1, 6] 1 [(0, .d (.list 5 (List.map encNote p0))), (1, vI p1), (6, .d (.list 5 (List.map encNote p0)))] (by kernel_rfl) ?_
  obtain ⟨r1, hr, h⟩ := bind_inv h
  refine OWk.cl 21 H (d := some 7) (ls := []) (gs := []) [] [0, 1, 7] [(0, .d (.list 5 (List.map encNote p0))), (1, vI p1), (7, vB r1)] (j_valid_ok hr) (by kernel_rfl) (by kernel_rfl) (by kernel_rfl) <| OWk.sg 21 H [] [0, 1, 8] 1 [(0, .d (.list 5 (List.map encNote p0))), (1, vI p1), (8, vB (!r1))] (by kernel_rfl) <| OWk.done (by kernel_rfl) <| thenS_n ?_
  refine SW.condB (b := (!r1)) (by kernel_rfl) (fun hc => ?_) (fun hc => ?_)
  · replace h := bif_t hc h
    refine SW.seq <| SW.regionK <| OWk.sg 21 H [] [4, 5] 2 [(4, .own 5 (List.map encNote ([] : List Note))), (5, vI 1)] (by kernel_rfl) <| OWk.done (by kernel_rfl) <| thenS_n <| SW.ret <| thenS_r ?_
    cases h
    exact EndQ.ret [] (by kernel_rfl) rfl
  · replace h := bif_f hc h
    refine SW.skip <| thenS_n <| SW.seq <| SW.seq <| SW.regionK <| OWk.sg 21 H [] [0, 1, 11] 3 [(0, .d (.list 5 (List.map encNote p0))), (1, vI p1), (11, vB (decide (p1 < 0)))] (by kernel_rfl) ?_
    refine OWk.case (decide (p1 < 0)) (fun b => (sp 21 [(0, .d (.list 5 (List.map encNote p0))), (1, vI p1), (11, vB b)] H)) (by kernel_rfl) (fun hc => ?_) (fun hc => ?_)
    · replace h := bif_t hc h
      refine OWk.sg 21 H [] [0, 1, 16] 5 [(0, .d (.list 5 (List.map encNote p0))), (1, vI p1), (16, vB true)] (by kernel_rfl) <| OWk.done (by kernel_rfl) <| thenS_n <| SW.condT (by kernel_rfl) <| SW.seq <| SW.regionK <| OWk.sg 21 H [] [4, 5] 2 [(4, .own 5 (List.map encNote ([] : List Note))), (5, vI 7)] (by kernel_rfl) <| OWk.done (by kernel_rfl) <| thenS_n <| SW.ret <| thenS_r ?_
      cases h
      exact EndQ.ret [] (by kernel_rfl) rfl
    · replace h := bif_f hc h
      refine OWk.sg 21 H [] [0, 1, 11, 12, 13] 2 [(0, .d (.list 5 (List.map encNote p0))), (1, vI p1), (11, vB false), (12, vI p1), (13, .d (.list 5 (List.map encNote p0)))] (by kernel_rfl) <| OWk.on 21 H (d := some 14) [0, 1, 11, 12, 14] [(0, .d (.list 5 (List.map encNote p0))), (1, vI p1), (11, vB false), (12, vI p1), (14, vI (p0.length : Int))] (BAt.len (enc := encNote) (xs := p0) (by kernel_rfl)) (by kernel_rfl) <| OWk.sg 21 H [] [0, 1, 16] 2 [(0, .d (.list 5 (List.map encNote p0))), (1, vI p1), (16, vB (decide (p1 > (p0.length : Int))))] (by kernel_rfl) <| OWk.done (by kernel_rfl) <| thenS_n ?_
      refine SW.condB (b := (decide (p1 > (p0.length : Int)))) (by kernel_rfl) (fun hc => ?_) (fun hc => ?_)
      · replace h := bif_t hc h
        refine SW.seq <| SW.regionK <| OWk.sg 21 H [] [4, 5] 2 [(4, .own 5 (List.map encNote ([] : List Note))), (5, vI 7)] (by kernel_rfl) <| OWk.done (by kernel_rfl) <| thenS_n <| SW.ret <| thenS_r ?_
        cases h
        exact EndQ.ret [] (by kernel_rfl) rfl
      · replace h := bif_f hc h
        refine SW.skip <| thenS_n <| SW.seq <| SW.regionK <| OWk.sg 21 H [] [17, 18] 2 [(17, .d (.list 5 (List.map encNote p0))), (18, vI p1)] (by kernel_rfl) ?_
        obtain ⟨hk, h⟩ := chk_inv h
        refine OWk.on 21 H (d := some 19) (s := lendL none 5 (List.map encNote (sl p0 0 p1))) [19] [(19, .d (.list 5 (List.map encNote (sl p0 0 p1))))] (BAt.slice hk (by kernel_rfl)) (by kernel_rfl) ?_
        obtain ⟨r2, hr, h⟩ := bind_inv h
        refine OWk.cl 21 H (d := some 20) (ls := []) (gs := []) [] [20] [(20, .own 5 (List.map encNote r2))] (slices_Clone_f39_ok hr) (by kernel_rfl) (by kernel_rfl) (by kernel_rfl) <| OWk.sg 21 H [] [4, 5] 2 [(4, .own 5 (List.map encNote r2)), (5, vI 0)] (by kernel_rfl) <| OWk.done (by kernel_rfl) <| thenS_n <| SW.ret ?_
        cases h
        exact EndQ.ret [] (by kernel_rfl) rfl
def r_Cut (fuel : Nat) (p0 : (List Note)) (p1 : Int) : Option ((List Note) × Int) :=
  (r_notes fuel p0).bind fun r1 =>
  bif (!r1) then
    some (([] : List Note), 1)
  else
    bif (decide (p1 < 0)) then
      some (([] : List Note), 7)
    else
      bif (decide (p1 > (p0.length : Int))) then
        some (([] : List Note), 7)
      else
        chk (slOk p0 0 p1) <|
        chk (decide ((([] : List Note) ++ (sl p0 0 p1)).length ≤ room)) <|
        some ((([] : List Note) ++ (sl p0 0 p1)), 0)
theorem r_Cut_ok {fuel : Nat} {p0 : (List Note)} {p1 : Int} {r : (List Note) × Int} (h : r_Cut fuel p0 p1 = some r) : PC Tryz.prog 21 [.d (.list 5 (List.map encNote p0)), vI p1] (.tup [.own 5 (List.map encNote r.1), vI r.2]) := by
  refine PC.of_SW Tryz.func21 rfl fun H => ?_
  unfold r_Cut at h
  refine SW.kp 24 H [0, 1] [(0, .d (.list 5 (List.map encNote p0))), (1, vI p1)] (by kernel_rfl) <| SW.seq <| SW.regionK <| OWk.sg 24 H [] [0, 1] 2 [(0, .d (.list 5 (List.map encNote p0))), (1, vI p1)] (by kernel_rfl) <| OWk.done (by kernel_rfl) <| thenS_n <| SW.seq <| SW.block <| SW.seq <| SW.regionK <| OWk.sg 24 H [] [0, 1, 7] 1 [(0, .d (.list 5 (List.map encNote p0))), (1, vI p1), (7, .d (.list 5 (List.map encNote p0)))] (by kernel_rfl) ?_
  obtain ⟨r1, hr, h⟩ := bind_inv h
  refine OWk.cl 24 H (d := some 8) (ls := []) (gs := []) [] [0, 1, 8] [(0, .d (.list 5 (List.map encNote p0))), (1, vI p1), (8, vB r1)] (r_notes_ok hr) (by kernel_rfl) (by kernel_rfl) (by kernel_rfl) <| OWk.sg 24 H [] [0, 1, 6] 2 [(0, .d (.list 5 (List.map encNote p0))), (1, vI p1), (6, vB (!r1))] (by kernel_rfl) <| OWk.done (by kernel_rfl) <| thenS_n ?_
  refine SW.condB (b := (!r1)) (by kernel_rfl) (fun hc => ?_) (fun hc => ?_)
  · replace h := bif_t hc h
    refine SW.seq <| SW.regionK <| OWk.sg 24 H [] [4, 5] 2 [(4, .own 5 (List.map encNote ([] : List Note))), (5, vI 1)] (by kernel_rfl) <| OWk.done (by kernel_rfl) <| thenS_n <| SW.ret <| blockS_r <| thenS_r ?_
    cases h
    exact EndQ.ret [] (by kernel_rfl) rfl
  · replace h := bif_f hc h
    refine SW.seq <| SW.regionK <| OWk.sg 24 H [] [0, 1, 13] 3 [(0, .d (.list 5 (List.map encNote p0))), (1, vI p1), (13, vB (decide (p1 < 0)))] (by kernel_rfl) ?_
    refine OWk.case (decide (p1 < 0)) (fun b => (sp 24 [(0, .d (.list 5 (List.map encNote p0))), (1, vI p1), (13, vB b)] H)) (by kernel_rfl) (fun hc => ?_) (fun hc => ?_)
    · replace h := bif_t hc h
      refine OWk.sg 24 H [] [0, 1, 10] 6 [(0, .d (.list 5 (List.map encNote p0))), (1, vI p1), (10, vB true)] (by kernel_rfl) <| OWk.done (by kernel_rfl) <| thenS_n <| SW.condT (by kernel_rfl) <| SW.seq <| SW.regionK <| OWk.sg 24 H [] [4, 5] 2 [(4, .own 5 (List.map encNote ([] : List Note))), (5, vI 7)] (by kernel_rfl) <| OWk.done (by kernel_rfl) <| thenS_n <| SW.ret <| blockS_r <| thenS_r ?_
      cases h
      exact EndQ.ret [] (by kernel_rfl) rfl
    · replace h := bif_f hc h
      refine OWk.sg 24 H [] [0, 1, 13, 14, 15] 2 [(0, .d (.list 5 (List.map encNote p0))), (1, vI p1), (13, vB false), (14, vI p1), (15, .d (.list 5 (List.map encNote p0)))] (by kernel_rfl) <| OWk.on 24 H (d := some 16) [0, 1, 13, 14, 16] [(0, .d (.list 5 (List.map encNote p0))), (1, vI p1), (13, vB false), (14, vI p1), (16, vI (p0.length : Int))] (BAt.len (enc := encNote) (xs := p0) (by kernel_rfl)) (by kernel_rfl) <| OWk.sg 24 H [] [0, 1, 10] 3 [(0, .d (.list 5 (List.map encNote p0))), (1, vI p1), (10, vB (decide (p1 > (p0.length : Int))))] (by kernel_rfl) <| OWk.done (by kernel_rfl) <| thenS_n ?_
      refine SW.condB (b := (decide (p1 > (p0.length : Int)))) (by kernel_rfl) (fun hc => ?_) (fun hc => ?_)
      · replace h := bif_t hc h
        refine SW.seq <| SW.regionK <| OWk.sg 24 H [] [4, 5] 2 [(4, .own 5 (List.map encNote ([] : List Note))), (5, vI 7)] (by kernel_rfl) <| OWk.done (by kernel_rfl) <| thenS_n <| SW.ret <| blockS_r <| thenS_r ?_
        cases h
        exact EndQ.ret [] (by kernel_rfl) rfl
      · replace h := bif_f hc h
        refine SW.skip <| blockS_n <| thenS_n <| SW.seq <| SW.regionK <| OWk.sg 24 H [19] [19, 20, 21] 3 [(19, .own 5 (List.map encNote ([] : List Note))), (20, .d (.list 5 (List.map encNote p0))), (21, vI p1)] (by kernel_rfl) ?_
        obtain ⟨hk, h⟩ := chk_inv h
        refine OWk.on 24 H (d := some 22) (s := lendL none 5 (List.map encNote (sl p0 0 p1))) [19, 22] [(19, .own 5 (List.map encNote ([] : List Note))), (22, .d (.list 5 (List.map encNote (sl p0 0 p1))))] (BAt.slice hk (by kernel_rfl)) (by kernel_rfl) ?_
        obtain ⟨hk, h⟩ := chk_inv h
        refine OWk.app 24 H (s := 19) (d := 23) (w := 5) [23] (zs := List.map encNote (([] : List Note) ++ (sl p0 0 p1))) [(23, .own 5 (List.map encNote (([] : List Note) ++ (sl p0 0 p1))))] (ys := (List.map encNote (sl p0 0 p1))) (by kernel_rfl) (map_append') (room_map hk) (by kernel_rfl) <| OWk.sg 24 H [19] [4, 5] 2 [(4, .own 5 (List.map encNote (([] : List Note) ++ (sl p0 0 p1)))), (5, vI 0)] (by kernel_rfl) <| OWk.done (by kernel_rfl) <| thenS_n <| SW.ret ?_
        cases h
        exact EndQ.ret [] (by kernel_rfl) rfl
def r_SameNotes_l1 (fuel : Nat) (p0 : (List Note)) (p1 : (List Note)) (y1 : Int) : Option ((Int) ⊕ ((Unit) ⊕ ((Bool)))) :=
  bif (decide (y1 < (p0.length : Int))) then
    (idx p0 y1).bind fun x2 =>
    (idx p1 y1).bind fun x3 =>
    bif (!((x2.Kind == x3.Kind) && ((x2.Unit == x3.Unit) && ((x2.Key == x3.Key) && ((x2.Has == x3.Has) && ((x2.Text == x3.Text) && true)))))) then
      some (.inr (.inr false))
    else
      some (.inl (IntKind.wrap .i64 (y1 + 1)))
  else
    some (.inr (.inl ()))
def r_SameNotes (fuel : Nat) (p0 : (List Note)) (p1 : (List Note)) : Option (Bool) :=
  bif ((p0.length : Int) != (p1.length : Int)) then
    some false
  else
    (iter (r_SameNotes_l1 fuel p0 p1) fuel 0).bind (Sum.elim (fun v5 =>
      some true) (fun r6 =>
      some r6))
theorem r_SameNotes_ok {fuel : Nat} {p0 : (List Note)} {p1 : (List Note)} {r : Bool} (h : r_SameNotes fuel p0 p1 = some r) : PC Tryz.prog 22 [.d (.list 5 (List.map encNote p0)), .d (.list 5 (List.map encNote p1))] (vB r) := by
  refine PC.of_SW Tryz.func22 rfl fun H => ?_
  unfold r_SameNotes at h
  refine SW.kp 26 H [0, 1] [(0, .d (.list 5 (List.map encNote p0))), (1, .d (.list 5 (List.map encNote p1)))] (by kernel_rfl) <| SW.seq <| SW.regionK <| OWk.sg 26 H [] [0, 1] 1 [(0, .d (.list 5 (List.map encNote p0))), (1, .d (.list 5 (List.map encNote p1)))] (by kernel_rfl) <| OWk.done (by kernel_rfl) <| thenS_n <| SW.seq <| SW.seq <| SW.regionK <| OWk.sg 26 H [] [0, 1, 6] 1 [(0, .d (.list 5 (List.map encNote p0))), (1, .d (.list 5 (List.map encNote p1))), (6, .d (.list 5 (List.map encNote p0)))] (by kernel_rfl) <| OWk.on 26 H (d := some 7) [0, 1, 7] [(0, .d (.list 5 (List.map encNote p0))), (1, .d (.list 5 (List.map encNote p1))), (7, vI (p0.length : Int))] (BAt.len (enc := encNote) (xs := p0) (by kernel_rfl)) (by kernel_rfl) <| OWk.sg 26 H [] [0, 1, 7, 8] 1 [(0, .d (.list 5 (List.map encNote p0))), (1, .d (.list 5 (List.map encNote p1))), (7, vI (p0.length : Int)), (8, .d (.list 5 (List.map encNote p1)))] (by kernel_rfl) <| OWk.on 26 H (d := some 9) [0, 1, 7, 9] [(0, .d (.list 5 (List.map encNote p0))), (1, .d (.list 5 (List.map encNote p1))), (7, vI (p0.length : Int)), (9, vI (p1.length : Int))] (BAt.len (enc := encNote) (xs := p1) (by kernel_rfl)) (by kernel_rfl) <| OWk.sg 26 H [] [0, 1, 10] 1 [(0, .d (.list 5 (List.map encNote p0))), (1, .d (.list 5 (List.map encNote p1))), (10, vB ((p0.length : Int) != (p1.length : Int)))] (by kernel_rfl) <| OWk.done (by kernel_rfl) <| thenS_n ?_
  refine SW.condB (b := ((p0.length : Int) != (p1.length : Int))) (by kernel_rfl) (fun hc => ?_) (fun hc => ?_)
  · replace h := bif_t hc h
    refine SW.seq <| SW.regionK <| OWk.sg 26 H [] [4] 1 [(4, vB false)] (by kernel_rfl) <| OWk.done (by kernel_rfl) <| thenS_n <| SW.ret <| thenS_r ?_
    cases h
    exact EndQ.ret [] (by kernel_rfl) rfl
  · replace h := bif_f hc h
    refine SW.skip <| thenS_n <| SW.seq <| SW.seq <| SW.regionK <| OWk.sg 26 H [] [0, 1, 5] 1 [(0, .d (.list 5 (List.map encNote p0))), (1, .d (.list 5 (List.map encNote p1))), (5, vI 0)] (by kernel_rfl) <| OWk.done (by kernel_rfl) <| thenS_n <| SW.block ?_
    obtain ⟨z4, hit, h⟩ := bind_inv h
    refine SW.it 26 H [0, 1, 5] (fun y1 => [(0, .d (.list 5 (List.map encNote p0))), (1, .d (.list 5 (List.map encNote p1))), (5, vI y1)]) (fun b e s => ((∃ v5, b = (.inl v5) ∧ (e = .exit 0 ∧ s = (sp 26 [] H))) ∨ (∃ r6, b = (.inr r6) ∧ (e = .ret ∧ EndQ Tryz.prog Tryz.f22.results.toList H (vB r6) .ret s)))) hit (by kernel_rfl) (fun y1 o h => ?_) ?_
    · unfold r_SameNotes_l1 at h
      refine SW.seq <| SW.seq <| SW.regionK <| OWk.sg 26 H [] [0, 1, 5, 11, 12] 2 [(0, .d (.list 5 (List.map encNote p0))), (1, .d (.list 5 (List.map encNote p1))), (5, vI y1), (11, vI y1), (12, .d (.list 5 (List.map encNote p0)))] (by kernel_rfl) <| OWk.on 26 H (d := some 13) [0, 1, 5, 11, 13] [(0, .d (.list 5 (List.map encNote p0))), (1, .d (.list 5 (List.map encNote p1))), (5, vI y1), (11, vI y1), (13, vI (p0.length : Int))] (BAt.len (enc := encNote) (xs := p0) (by kernel_rfl)) (by kernel_rfl) <| OWk.sg 26 H [] [0, 1, 5, 14] 1 [(0, .d (.list 5 (List.map encNote p0))), (1, .d (.list 5 (List.map encNote p1))), (5, vI y1), (14, vB (decide (y1 < (p0.length : Int))))] (by kernel_rfl) <| OWk.done (by kernel_rfl) <| thenS_n ?_
      refine SW.condB (b := (decide (y1 < (p0.length : Int)))) (by kernel_rfl) (fun hc => ?_) (fun hc => ?_)
      · replace h := bif_t hc h
        refine SW.skip <| thenS_n <| SW.seq <| SW.block <| SW.seq <| SW.regionDk (by kernel_rfl) (by kernel_rfl) <| OBk.sg 26 H [] [0, 1, 5, 17, 18] 2 [(0, .d (.list 5 (List.map encNote p0))), (1, .d (.list 5 (List.map encNote p1))), (5, vI y1), (17, .d (.list 5 (List.map encNote p0))), (18, vI y1)] (by kernel_rfl) (by kernel_rfl) ?_
        obtain ⟨x2, hx, h⟩ := bind_inv h
        refine OBk.on 26 H (d := some 19) (s := lendP none (Go.Sh.D.cells (encNote x2))) [0, 1, 5, 19] [(0, .d (.list 5 (List.map encNote p0))), (1, .d (.list 5 (List.map encNote p1))), (5, vI y1), (19, .d (.dptr [.int .i64 x2.Kind, .int .i64 x2.Unit, .str x2.Key, .bool x2.Has, .str x2.Text]))] (by kernel_rfl) (BAt.index (n := 5) hx (by kernel_rfl)) (by kernel_rfl) <| OBk.sg 26 H [] [0, 1, 5, 20, 21, 22] 3 [(0, .d (.list 5 (List.map encNote p0))), (1, .d (.list 5 (List.map encNote p1))), (5, vI y1), (20, .d (.agg [.int .i64 x2.Kind, .int .i64 x2.Unit, .str x2.Key, .bool x2.Has, .str x2.Text])), (21, .d (.list 5 (List.map encNote p1))), (22, vI y1)] (by kernel_rfl) (by kernel_rfl) ?_
        obtain ⟨x3, hx, h⟩ := bind_inv h
        refine OBk.on 26 H (d := some 23) (s := lendP none (Go.Sh.D.cells (encNote x3))) [0, 1, 5, 20, 23] [(0, .d (.list 5 (List.map encNote p0))), (1, .d (.list 5 (List.map encNote p1))), (5, vI y1), (20, .d (.agg [.int .i64 x2.Kind, .int .i64 x2.Unit, .str x2.Key, .bool x2.Has, .str x2.Text])), (23, .d (.dptr [.int .i64 x3.Kind, .int .i64 x3.Unit, .str x3.Key, .bool x3.Has, .str x3.Text]))] (by kernel_rfl) (BAt.index (n := 5) hx (by kernel_rfl)) (by kernel_rfl) <| OBk.sg 26 H [] [0, 1, 5, 25] 2 [(0, .d (.list 5 (List.map encNote p0))), (1, .d (.list 5 (List.map encNote p1))), (5, vI y1), (25, vB (!((x2.Kind == x3.Kind) && ((x2.Unit == x3.Unit) && ((x2.Key == x3.Key) && ((x2.Has == x3.Has) && ((x2.Text == x3.Text) && true)))))))] (by kernel_rfl) (by kernel_rfl) <| OBk.done (by kernel_rfl) <| thenS_n ?_
        refine SW.condB (b := (!((x2.Kind == x3.Kind) && ((x2.Unit == x3.Unit) && ((x2.Key == x3.Key) && ((x2.Has == x3.Has) && ((x2.Text == x3.Text) && true))))))) (by kernel_rfl) (fun hc => ?_) (fun hc => ?_)
        · replace h := bif_t hc h
          refine SW.seq <| SW.regionK <| OWk.sg 26 H [] [4] 1 [(4, vB false)] (by kernel_rfl) <| OWk.done (by kernel_rfl) <| thenS_n <| SW.ret <| blockS_r <| thenS_r ?_
          cases h
          refine thenS_r ?_
          exact ⟨_, rfl, .inr (⟨false, rfl, rfl, EndQ.ret [] (by kernel_rfl) rfl⟩)⟩
        · replace h := bif_f hc h
          refine SW.skip <| blockS_n <| thenS_n <| SW.regionK <| OWk.sg 26 H [] [0, 1, 5] 3 [(0, .d (.list 5 (List.map encNote p0))), (1, .d (.list 5 (List.map encNote p1))), (5, vI (IntKind.wrap .i64 (y1 + 1)))] (by kernel_rfl) <| OWk.done (by kernel_rfl) ?_
          cases h
          exact ⟨(IntKind.wrap .i64 (y1 + 1)), rfl, by kernel_rfl⟩
      · replace h := bif_f hc h
        refine SW.kp 26 H [] [] (by kernel_rfl) <| SW.exit <| thenS_e ?_
        cases h
        refine thenS_e ?_
        exact ⟨_, rfl, .inl ⟨(), rfl, rfl, rfl⟩⟩
    · rintro _ _ (⟨v5, rfl, rfl, rfl⟩ | ⟨r6, rfl, rfl, hE⟩)
      · replace h := sum_l h
        refine blockS_hit <| thenS_n <| SW.seq <| SW.regionK <| OWk.sg 26 H [] [4] 1 [(4, vB true)] (by kernel_rfl) <| OWk.done (by kernel_rfl) <| thenS_n <| SW.ret ?_
        cases h
        exact EndQ.ret [] (by kernel_rfl) rfl
      · replace h := sum_r h
        refine blockS_r <| thenS_r ?_
        cases h
        exact hE
end Go.Sh
