/- Printed by a program: functions of the program as plain functions, and that the code computes them. -/
import Derived.Test.YtjkhgfoecplbgaaF1
set_option linter.all false
set_option autoImplicit true
set_option relaxedAutoImplicit true
open Go Go.Proofs
namespace Go.Sh
set_option maxRecDepth 100000
def j_reader_next (fuel : Nat) (p0 : Nat) (p1 : Nat) (H : Hp) : Option (Pn ((Note × Bool) × Hp)) :=
  (hGet (cI .u64).cell H p1 1).bind fun x1 =>
  (j_reader_note fuel p0 x1 H).bind fun o =>
  Pn.el (fun r2 =>
    (hSet (cI .u64) r2.2 p1 1 r2.1.2).bind fun H3 =>
    (j_reader_next_1_n fuel (some p1) H3).bind fun Hd =>
    some (.ok ((r2.1.1, true), Hd)))
  (fun bt bH =>
    (j_reader_next_1_s fuel (some p1) bt bH).bind fun Hd =>
    some (.ok (((⟨0, 0, [], false, []⟩ : Note), false), Hd))) o
theorem j_reader_next_ok {fuel : Nat} {p0 : Nat} {p1 : Nat} {H : Hp} {r : Pn ((Note × Bool) × Hp)} (h : j_reader_next fuel p0 p1 H = some r) : SB Try.prog 73 [.d (.ptr p0 0), .d (.ptr p1 0)] H (Pn.sv (fun (x : Note × Bool) => (.tup [.d (.agg [.int .i64 x.1.Kind, .int .i64 x.1.Unit, .str x.1.Key, .bool x.1.Has, .str x.1.Text]), vB x.2])) r) := by
  unfold j_reader_next at h
  obtain ⟨x1, hx1, h⟩ := bind_inv h
  obtain ⟨o, hr, h⟩ := bind_inv h
  rcases o with r2 | ⟨bt, bH⟩
  · replace h := pn_ok h
    obtain ⟨H3, hH3, h⟩ := bind_inv h
    obtain ⟨Hd, hd, h⟩ := bind_inv h
    cases h
    refine SB.of_defer (u := none) (st1 := (sp 20 [(0, .d (.ptr p0 0)), (3, .d (.dptr [.ptr p1 0])), (4, Z245), (5, vB false)] H)) (H2 := H3) (H3 := Hd) (x := (.dptr [.ptr p1 0])) (t6 := 6) (tc := 3) (df := 86) Try.func73 rfl rfl rfl rfl rfl rfl rfl rfl rfl (by kernel_rfl) ?_ (by kernel_rfl) (by kernel_rfl) (fun ds => ?_) (j_reader_next_1_n_ok hd)
    · refine SW.kp 20 H [0, 1] [(0, .d (.ptr p0 0)), (1, .d (.ptr p1 0))] (by kernel_rfl) <| SW.regionK <| OWk.bxf 20 H (d := 3) (ds := [.ptr p1 0]) [0, 3] [(0, .d (.ptr p0 0)), (3, .d (.dptr [.ptr p1 0]))] (by kernel_rfl) (by kernel_rfl) <| OWk.G 2 [(0, .d (.ptr p0 0)), (3, .d (.dptr [.ptr p1 0])), (4, Z245), (5, vB false)] <| OWk.D ?_
      exact rfl
    · refine SWd.seq <| SWd.keep 20 H [0, 3, 4, 5] [(0, .d (.ptr p0 0)), (3, .d (.dptr [.ptr p1 0])), (4, Z245), (5, vB false)] (by kernel_rfl) ?_
      refine SWd.regX (by kernel_rfl) (fun X hX => ?_)
      have c16383 : X 0 16383 (sp 20 [(4, .box [vI r2.1.1.Kind, vI r2.1.1.Unit, vS r2.1.1.Key, vB r2.1.1.Has, vS r2.1.1.Text]), (5, vB false)] H3) := by
        subst hX
        refine OXT.fin (by kernel_rfl) <| thenS_n <| SWd.seq <| SWd.region <| OTk.M 3 <| OWk.G 3 [(4, .box [vI r2.1.1.Kind, vI r2.1.1.Unit, vS r2.1.1.Key, vB r2.1.1.Has, vS r2.1.1.Text]), (5, vB true)] <| OWk.D <| OTk.D <| thenS_n <| SWd.ret ?_
        exact ⟨rfl, rfl, by kernel_rfl, by kernel_rfl⟩
      have c8191 : X 1 8191 (sp 20 [(4, .box [vI r2.1.1.Kind, vI r2.1.1.Unit, vS r2.1.1.Key, vB r2.1.1.Has, vS r2.1.1.Text]), (5, vB false), (16, .d (.int .u64 r2.1.2)), (18, .d (.ptr p1 1))] r2.2) := by
        subst hX
        refine OXT.step (i0 := 13) (is := []) (by kernel_rfl) (by kernel_rfl) ⟨?_, trivial⟩
        · refine OTk.M 1 <| OWk.hst 20 H3 [4, 5] [(4, .box [vI r2.1.1.Kind, vI r2.1.1.Unit, vS r2.1.1.Key, vB r2.1.1.Has, vS r2.1.1.Text]), (5, vB false)] hH3 (by kernel_rfl) (by kernel_rfl) <| OWk.D <| OTk.D ?_
          exact thenS_n c16383
      have c4095 : X 2 4095 (sp 20 [(4, .box [vI r2.1.1.Kind, vI r2.1.1.Unit, vS r2.1.1.Key, vB r2.1.1.Has, vS r2.1.1.Text]), (5, vB false), (16, .d (.int .u64 r2.1.2)), (17, .d (.ptr p1 0))] r2.2) := by
        subst hX
        refine OXT.step (i0 := 12) (is := []) (by kernel_rfl) (by kernel_rfl) ⟨?_, trivial⟩
        · refine OTk.M 1 <| OWk.G 1 [(4, .box [vI r2.1.1.Kind, vI r2.1.1.Unit, vS r2.1.1.Key, vB r2.1.1.Has, vS r2.1.1.Text]), (5, vB false), (16, .d (.int .u64 r2.1.2)), (18, .d (.ptr p1 1))] <| OWk.D <| OTk.D ?_
          exact thenS_n c8191
      have c2047 : X 3 2047 (sp 20 [(4, .box [vI r2.1.1.Kind, vI r2.1.1.Unit, vS r2.1.1.Key, vB r2.1.1.Has, vS r2.1.1.Text]), (5, vB false), (8, .d (.ptr p1 0)), (16, .d (.int .u64 r2.1.2))] r2.2) := by
        subst hX
        refine OXT.step (i0 := 11) (is := []) (by kernel_rfl) (by kernel_rfl) ⟨?_, trivial⟩
        · refine OTk.M 1 <| OWk.G 1 [(4, .box [vI r2.1.1.Kind, vI r2.1.1.Unit, vS r2.1.1.Key, vB r2.1.1.Has, vS r2.1.1.Text]), (5, vB false), (16, .d (.int .u64 r2.1.2)), (17, .d (.ptr p1 0))] <| OWk.D <| OTk.D ?_
          exact thenS_n c4095
      have c1023 : X 4 1023 (sp 20 [(4, Z245), (5, vB false), (8, .d (.ptr p1 0)), (15, .d (.agg [.int .i64 r2.1.1.Kind, .int .i64 r2.1.1.Unit, .str r2.1.1.Key, .bool r2.1.1.Has, .str r2.1.1.Text])), (16, .d (.int .u64 r2.1.2))] r2.2) := by
        subst hX
        refine OXT.step (i0 := 10) (is := []) (by kernel_rfl) (by kernel_rfl) ⟨?_, trivial⟩
        · refine OTk.M 1 <| OWk.G 1 [(4, .box [vI r2.1.1.Kind, vI r2.1.1.Unit, vS r2.1.1.Key, vB r2.1.1.Has, vS r2.1.1.Text]), (5, vB false), (8, .d (.ptr p1 0)), (16, .d (.int .u64 r2.1.2))] <| OWk.D <| OTk.D ?_
          exact thenS_n c2047
      have c1535 : X 4 1535 (sp 20 [(4, .box [vI r2.1.1.Kind, vI r2.1.1.Unit, vS r2.1.1.Key, vB r2.1.1.Has, vS r2.1.1.Text]), (5, vB false), (7, .tup [.d (.agg [.int .i64 r2.1.1.Kind, .int .i64 r2.1.1.Unit, .str r2.1.1.Key, .bool r2.1.1.Has, .str r2.1.1.Text]), .d (.int .u64 r2.1.2)]), (8, .d (.ptr p1 0))] r2.2) := by
        subst hX
        refine OXT.step (i0 := 9) (is := []) (by kernel_rfl) (by kernel_rfl) ⟨?_, trivial⟩
        · refine OTk.M 1 <| OWk.G 1 [(4, .box [vI r2.1.1.Kind, vI r2.1.1.Unit, vS r2.1.1.Key, vB r2.1.1.Has, vS r2.1.1.Text]), (5, vB false), (8, .d (.ptr p1 0)), (16, .d (.int .u64 r2.1.2))] <| OWk.D <| OTk.D ?_
          exact thenS_n c2047
      have c511 : X 5 511 (sp 20 [(4, Z245), (5, vB false), (7, .tup [.d (.agg [.int .i64 r2.1.1.Kind, .int .i64 r2.1.1.Unit, .str r2.1.1.Key, .bool r2.1.1.Has, .str r2.1.1.Text]), .d (.int .u64 r2.1.2)]), (8, .d (.ptr p1 0)), (15, .d (.agg [.int .i64 r2.1.1.Kind, .int .i64 r2.1.1.Unit, .str r2.1.1.Key, .bool r2.1.1.Has, .str r2.1.1.Text]))] r2.2) := by
        subst hX
        refine OXT.step (i0 := 9) (is := [10]) (by kernel_rfl) (by kernel_rfl) ⟨?_, ?_, trivial⟩
        · refine OTk.M 1 <| OWk.G 1 [(4, Z245), (5, vB false), (8, .d (.ptr p1 0)), (15, .d (.agg [.int .i64 r2.1.1.Kind, .int .i64 r2.1.1.Unit, .str r2.1.1.Key, .bool r2.1.1.Has, .str r2.1.1.Text])), (16, .d (.int .u64 r2.1.2))] <| OWk.D <| OTk.D ?_
          exact thenS_n c1023
        · refine OTk.M 1 <| OWk.G 1 [(4, .box [vI r2.1.1.Kind, vI r2.1.1.Unit, vS r2.1.1.Key, vB r2.1.1.Has, vS r2.1.1.Text]), (5, vB false), (7, .tup [.d (.agg [.int .i64 r2.1.1.Kind, .int .i64 r2.1.1.Unit, .str r2.1.1.Key, .bool r2.1.1.Has, .str r2.1.1.Text]), .d (.int .u64 r2.1.2)]), (8, .d (.ptr p1 0))] <| OWk.D <| OTk.D ?_
          exact thenS_n c1535
      have c767 : X 5 767 (sp 20 [(4, Z245), (5, vB false), (7, .tup [.d (.agg [.int .i64 r2.1.1.Kind, .int .i64 r2.1.1.Unit, .str r2.1.1.Key, .bool r2.1.1.Has, .str r2.1.1.Text]), .d (.int .u64 r2.1.2)]), (8, .d (.ptr p1 0)), (16, .d (.int .u64 r2.1.2))] r2.2) := by
        subst hX
        refine OXT.step (i0 := 8) (is := []) (by kernel_rfl) (by kernel_rfl) ⟨?_, trivial⟩
        · refine OTk.M 1 <| OWk.G 1 [(4, Z245), (5, vB false), (8, .d (.ptr p1 0)), (15, .d (.agg [.int .i64 r2.1.1.Kind, .int .i64 r2.1.1.Unit, .str r2.1.1.Key, .bool r2.1.1.Has, .str r2.1.1.Text])), (16, .d (.int .u64 r2.1.2))] <| OWk.D <| OTk.D ?_
          exact thenS_n c1023
      have c255 : X 6 255 (sp 20 [(4, Z245), (5, vB false), (7, .tup [.d (.agg [.int .i64 r2.1.1.Kind, .int .i64 r2.1.1.Unit, .str r2.1.1.Key, .bool r2.1.1.Has, .str r2.1.1.Text]), .d (.int .u64 r2.1.2)]), (8, .d (.ptr p1 0))] r2.2) := by
        subst hX
        refine OXT.step (i0 := 8) (is := [9]) (by kernel_rfl) (by kernel_rfl) ⟨?_, ?_, trivial⟩
        · refine OTk.M 1 <| OWk.G 1 [(4, Z245), (5, vB false), (7, .tup [.d (.agg [.int .i64 r2.1.1.Kind, .int .i64 r2.1.1.Unit, .str r2.1.1.Key, .bool r2.1.1.Has, .str r2.1.1.Text]), .d (.int .u64 r2.1.2)]), (8, .d (.ptr p1 0)), (15, .d (.agg [.int .i64 r2.1.1.Kind, .int .i64 r2.1.1.Unit, .str r2.1.1.Key, .bool r2.1.1.Has, .str r2.1.1.Text]))] <| OWk.D <| OTk.D ?_
          exact thenS_n c511
        · refine OTk.M 1 <| OWk.G 1 [(4, Z245), (5, vB false), (7, .tup [.d (.agg [.int .i64 r2.1.1.Kind, .int .i64 r2.1.1.Unit, .str r2.1.1.Key, .bool r2.1.1.Has, .str r2.1.1.Text]), .d (.int .u64 r2.1.2)]), (8, .d (.ptr p1 0)), (16, .d (.int .u64 r2.1.2))] <| OWk.D <| OTk.D ?_
          exact thenS_n c767
      have c127 : X 7 127 (sp 20 [(4, Z245), (5, vB false), (8, .d (.ptr p1 0)), (14, .tup [.d (.agg [.int .i64 r2.1.1.Kind, .int .i64 r2.1.1.Unit, .str r2.1.1.Key, .bool r2.1.1.Has, .str r2.1.1.Text]), .d (.int .u64 r2.1.2)])] r2.2) := by
        subst hX
        refine OXT.step (i0 := 7) (is := []) (by kernel_rfl) (by kernel_rfl) ⟨?_, trivial⟩
        · refine OTk.M 1 <| OWk.G 1 [(4, Z245), (5, vB false), (7, .tup [.d (.agg [.int .i64 r2.1.1.Kind, .int .i64 r2.1.1.Unit, .str r2.1.1.Key, .bool r2.1.1.Has, .str r2.1.1.Text]), .d (.int .u64 r2.1.2)]), (8, .d (.ptr p1 0))] <| OWk.D <| OTk.D ?_
          exact thenS_n c255
      have c63 : X 8 63 (sp 20 [(4, Z245), (5, vB false), (8, .d (.ptr p1 0)), (9, .d (.ptr p0 0)), (13, .d (.int .u64 x1))] H) := by
        subst hX
        refine OXT.step (i0 := 6) (is := []) (by kernel_rfl) (by kernel_rfl) ⟨?_, trivial⟩
        · refine OTk.M 1 <| OWk.CH (some 14) [(4, Z245), (5, vB false), (8, .d (.ptr p1 0)), (14, .tup [.d (.agg [.int .i64 r2.1.1.Kind, .int .i64 r2.1.1.Unit, .str r2.1.1.Key, .bool r2.1.1.Has, .str r2.1.1.Text]), .d (.int .u64 r2.1.2)])] (SB.sc (j_reader_note_ok hr)) <| OWk.D <| OTk.D ?_
          exact thenS_n c127
      have c31 : X 9 31 (sp 20 [(4, Z245), (5, vB false), (8, .d (.ptr p1 0)), (9, .d (.ptr p0 0)), (12, .d (.ptr p1 1))] H) := by
        subst hX
        refine OXT.step (i0 := 5) (is := []) (by kernel_rfl) (by kernel_rfl) ⟨?_, trivial⟩
        · refine OTk.M 1 <| OWk.O (d := some 13) (s := .d (.int .u64 x1)) [(4, Z245), (5, vB false), (8, .d (.ptr p1 0)), (9, .d (.ptr p0 0)), (13, .d (.int .u64 x1))] (BAt.ldH (c := (cI .u64).cell) hx1 (by kernel_rfl)) <| OWk.D <| OTk.D ?_
          exact thenS_n c63
      have c15 : X 10 15 (sp 20 [(4, Z245), (5, vB false), (8, .d (.ptr p1 0)), (9, .d (.ptr p0 0)), (11, .d (.ptr p1 0))] H) := by
        subst hX
        refine OXT.step (i0 := 4) (is := []) (by kernel_rfl) (by kernel_rfl) ⟨?_, trivial⟩
        · refine OTk.M 1 <| OWk.G 1 [(4, Z245), (5, vB false), (8, .d (.ptr p1 0)), (9, .d (.ptr p0 0)), (12, .d (.ptr p1 1))] <| OWk.D <| OTk.D ?_
          exact thenS_n c31
      have c7 : X 11 7 (sp 20 [(4, Z245), (5, vB false), (8, .d (.ptr p1 0)), (9, .d (.ptr p0 0)), (10, .d (.ptr p1 0))] H) := by
        subst hX
        refine OXT.step (i0 := 3) (is := []) (by kernel_rfl) (by kernel_rfl) ⟨?_, trivial⟩
        · refine OTk.M 1 <| OWk.G 1 [(4, Z245), (5, vB false), (8, .d (.ptr p1 0)), (9, .d (.ptr p0 0)), (11, .d (.ptr p1 0))] <| OWk.D <| OTk.D ?_
          exact thenS_n c15
      have c3 : X 12 3 (sp 20 [(3, .d (.dptr [.ptr p1 0])), (4, Z245), (5, vB false), (8, .d (.ptr p1 0)), (9, .d (.ptr p0 0))] H) := by
        subst hX
        refine OXT.step (i0 := 2) (is := []) (by kernel_rfl) (by kernel_rfl) ⟨?_, trivial⟩
        · refine OTk.M 1 <| OWk.G 1 [(4, Z245), (5, vB false), (8, .d (.ptr p1 0)), (9, .d (.ptr p0 0)), (10, .d (.ptr p1 0))] <| OWk.D <| OTk.D ?_
          exact thenS_n c7
      have c61 : X 9 61 (sp 20 [(0, .d (.ptr p0 0)), (4, Z245), (5, vB false), (8, .d (.ptr p1 0)), (13, .d (.int .u64 x1))] H) := by
        subst hX
        refine OXT.step (i0 := 1) (is := []) (by kernel_rfl) (by kernel_rfl) ⟨?_, trivial⟩
        · refine OTk.M 1 <| OWk.G 1 [(4, Z245), (5, vB false), (8, .d (.ptr p1 0)), (9, .d (.ptr p0 0)), (13, .d (.int .u64 x1))] <| OWk.D <| OTk.D ?_
          exact thenS_n c63
      have c29 : X 10 29 (sp 20 [(0, .d (.ptr p0 0)), (4, Z245), (5, vB false), (8, .d (.ptr p1 0)), (12, .d (.ptr p1 1))] H) := by
        subst hX
        refine OXT.step (i0 := 1) (is := [5]) (by kernel_rfl) (by kernel_rfl) ⟨?_, ?_, trivial⟩
        · refine OTk.M 1 <| OWk.G 1 [(4, Z245), (5, vB false), (8, .d (.ptr p1 0)), (9, .d (.ptr p0 0)), (12, .d (.ptr p1 1))] <| OWk.D <| OTk.D ?_
          exact thenS_n c31
        · refine OTk.M 1 <| OWk.O (d := some 13) (s := .d (.int .u64 x1)) [(0, .d (.ptr p0 0)), (4, Z245), (5, vB false), (8, .d (.ptr p1 0)), (13, .d (.int .u64 x1))] (BAt.ldH (c := (cI .u64).cell) hx1 (by kernel_rfl)) <| OWk.D <| OTk.D ?_
          exact thenS_n c61
      have c13 : X 11 13 (sp 20 [(0, .d (.ptr p0 0)), (4, Z245), (5, vB false), (8, .d (.ptr p1 0)), (11, .d (.ptr p1 0))] H) := by
        subst hX
        refine OXT.step (i0 := 1) (is := [4]) (by kernel_rfl) (by kernel_rfl) ⟨?_, ?_, trivial⟩
        · refine OTk.M 1 <| OWk.G 1 [(4, Z245), (5, vB false), (8, .d (.ptr p1 0)), (9, .d (.ptr p0 0)), (11, .d (.ptr p1 0))] <| OWk.D <| OTk.D ?_
          exact thenS_n c15
        · refine OTk.M 1 <| OWk.G 1 [(0, .d (.ptr p0 0)), (4, Z245), (5, vB false), (8, .d (.ptr p1 0)), (12, .d (.ptr p1 1))] <| OWk.D <| OTk.D ?_
          exact thenS_n c29
      have c5 : X 12 5 (sp 20 [(0, .d (.ptr p0 0)), (4, Z245), (5, vB false), (8, .d (.ptr p1 0)), (10, .d (.ptr p1 0))] H) := by
        subst hX
        refine OXT.step (i0 := 1) (is := [3]) (by kernel_rfl) (by kernel_rfl) ⟨?_, ?_, trivial⟩
        · refine OTk.M 1 <| OWk.G 1 [(4, Z245), (5, vB false), (8, .d (.ptr p1 0)), (9, .d (.ptr p0 0)), (10, .d (.ptr p1 0))] <| OWk.D <| OTk.D ?_
          exact thenS_n c7
        · refine OTk.M 1 <| OWk.G 1 [(0, .d (.ptr p0 0)), (4, Z245), (5, vB false), (8, .d (.ptr p1 0)), (11, .d (.ptr p1 0))] <| OWk.D <| OTk.D ?_
          exact thenS_n c13
      have c1 : X 13 1 (sp 20 [(0, .d (.ptr p0 0)), (3, .d (.dptr [.ptr p1 0])), (4, Z245), (5, vB false), (8, .d (.ptr p1 0))] H) := by
        subst hX
        refine OXT.step (i0 := 1) (is := [2]) (by kernel_rfl) (by kernel_rfl) ⟨?_, ?_, trivial⟩
        · refine OTk.M 1 <| OWk.G 1 [(3, .d (.dptr [.ptr p1 0])), (4, Z245), (5, vB false), (8, .d (.ptr p1 0)), (9, .d (.ptr p0 0))] <| OWk.D <| OTk.D ?_
          exact thenS_n c3
        · refine OTk.M 1 <| OWk.G 1 [(0, .d (.ptr p0 0)), (4, Z245), (5, vB false), (8, .d (.ptr p1 0)), (10, .d (.ptr p1 0))] <| OWk.D <| OTk.D ?_
          exact thenS_n c5
      have c2046 : X 4 2046 (sp 20 [(3, .d (.dptr [.ptr p1 0])), (4, .box [vI r2.1.1.Kind, vI r2.1.1.Unit, vS r2.1.1.Key, vB r2.1.1.Has, vS r2.1.1.Text]), (5, vB false), (16, .d (.int .u64 r2.1.2))] r2.2) := by
        subst hX
        refine OXT.step (i0 := 0) (is := []) (by kernel_rfl) (by kernel_rfl) ⟨?_, trivial⟩
        · refine OTk.M 1 <| OWk.G 1 [(4, .box [vI r2.1.1.Kind, vI r2.1.1.Unit, vS r2.1.1.Key, vB r2.1.1.Has, vS r2.1.1.Text]), (5, vB false), (8, .d (.ptr p1 0)), (16, .d (.int .u64 r2.1.2))] <| OWk.D <| OTk.D ?_
          exact thenS_n c2047
      have c1022 : X 5 1022 (sp 20 [(3, .d (.dptr [.ptr p1 0])), (4, Z245), (5, vB false), (15, .d (.agg [.int .i64 r2.1.1.Kind, .int .i64 r2.1.1.Unit, .str r2.1.1.Key, .bool r2.1.1.Has, .str r2.1.1.Text])), (16, .d (.int .u64 r2.1.2))] r2.2) := by
        subst hX
        refine OXT.step (i0 := 0) (is := [10]) (by kernel_rfl) (by kernel_rfl) ⟨?_, ?_, trivial⟩
        · refine OTk.M 1 <| OWk.G 1 [(4, Z245), (5, vB false), (8, .d (.ptr p1 0)), (15, .d (.agg [.int .i64 r2.1.1.Kind, .int .i64 r2.1.1.Unit, .str r2.1.1.Key, .bool r2.1.1.Has, .str r2.1.1.Text])), (16, .d (.int .u64 r2.1.2))] <| OWk.D <| OTk.D ?_
          exact thenS_n c1023
        · refine OTk.M 1 <| OWk.G 1 [(3, .d (.dptr [.ptr p1 0])), (4, .box [vI r2.1.1.Kind, vI r2.1.1.Unit, vS r2.1.1.Key, vB r2.1.1.Has, vS r2.1.1.Text]), (5, vB false), (16, .d (.int .u64 r2.1.2))] <| OWk.D <| OTk.D ?_
          exact thenS_n c2046
      have c1534 : X 5 1534 (sp 20 [(3, .d (.dptr [.ptr p1 0])), (4, .box [vI r2.1.1.Kind, vI r2.1.1.Unit, vS r2.1.1.Key, vB r2.1.1.Has, vS r2.1.1.Text]), (5, vB false), (7, .tup [.d (.agg [.int .i64 r2.1.1.Kind, .int .i64 r2.1.1.Unit, .str r2.1.1.Key, .bool r2.1.1.Has, .str r2.1.1.Text]), .d (.int .u64 r2.1.2)])] r2.2) := by
        subst hX
        refine OXT.step (i0 := 0) (is := [9]) (by kernel_rfl) (by kernel_rfl) ⟨?_, ?_, trivial⟩
        · refine OTk.M 1 <| OWk.G 1 [(4, .box [vI r2.1.1.Kind, vI r2.1.1.Unit, vS r2.1.1.Key, vB r2.1.1.Has, vS r2.1.1.Text]), (5, vB false), (7, .tup [.d (.agg [.int .i64 r2.1.1.Kind, .int .i64 r2.1.1.Unit, .str r2.1.1.Key, .bool r2.1.1.Has, .str r2.1.1.Text]), .d (.int .u64 r2.1.2)]), (8, .d (.ptr p1 0))] <| OWk.D <| OTk.D ?_
          exact thenS_n c1535
        · refine OTk.M 1 <| OWk.G 1 [(3, .d (.dptr [.ptr p1 0])), (4, .box [vI r2.1.1.Kind, vI r2.1.1.Unit, vS r2.1.1.Key, vB r2.1.1.Has, vS r2.1.1.Text]), (5, vB false), (16, .d (.int .u64 r2.1.2))] <| OWk.D <| OTk.D ?_
          exact thenS_n c2046
      have c510 : X 6 510 (sp 20 [(3, .d (.dptr [.ptr p1 0])), (4, Z245), (5, vB false), (7, .tup [.d (.agg [.int .i64 r2.1.1.Kind, .int .i64 r2.1.1.Unit, .str r2.1.1.Key, .bool r2.1.1.Has, .str r2.1.1.Text]), .d (.int .u64 r2.1.2)]), (15, .d (.agg [.int .i64 r2.1.1.Kind, .int .i64 r2.1.1.Unit, .str r2.1.1.Key, .bool r2.1.1.Has, .str r2.1.1.Text]))] r2.2) := by
        subst hX
        refine OXT.step (i0 := 0) (is := [9, 10]) (by kernel_rfl) (by kernel_rfl) ⟨?_, ?_, ?_, trivial⟩
        · refine OTk.M 1 <| OWk.G 1 [(4, Z245), (5, vB false), (7, .tup [.d (.agg [.int .i64 r2.1.1.Kind, .int .i64 r2.1.1.Unit, .str r2.1.1.Key, .bool r2.1.1.Has, .str r2.1.1.Text]), .d (.int .u64 r2.1.2)]), (8, .d (.ptr p1 0)), (15, .d (.agg [.int .i64 r2.1.1.Kind, .int .i64 r2.1.1.Unit, .str r2.1.1.Key, .bool r2.1.1.Has, .str r2.1.1.Text]))] <| OWk.D <| OTk.D ?_
          exact thenS_n c511
        · refine OTk.M 1 <| OWk.G 1 [(3, .d (.dptr [.ptr p1 0])), (4, Z245), (5, vB false), (15, .d (.agg [.int .i64 r2.1.1.Kind, .int .i64 r2.1.1.Unit, .str r2.1.1.Key, .bool r2.1.1.Has, .str r2.1.1.Text])), (16, .d (.int .u64 r2.1.2))] <| OWk.D <| OTk.D ?_
          exact thenS_n c1022
        · refine OTk.M 1 <| OWk.G 1 [(3, .d (.dptr [.ptr p1 0])), (4, .box [vI r2.1.1.Kind, vI r2.1.1.Unit, vS r2.1.1.Key, vB r2.1.1.Has, vS r2.1.1.Text]), (5, vB false), (7, .tup [.d (.agg [.int .i64 r2.1.1.Kind, .int .i64 r2.1.1.Unit, .str r2.1.1.Key, .bool r2.1.1.Has, .str r2.1.1.Text]), .d (.int .u64 r2.1.2)])] <| OWk.D <| OTk.D ?_
          exact thenS_n c1534
      have c766 : X 6 766 (sp 20 [(3, .d (.dptr [.ptr p1 0])), (4, Z245), (5, vB false), (7, .tup [.d (.agg [.int .i64 r2.1.1.Kind, .int .i64 r2.1.1.Unit, .str r2.1.1.Key, .bool r2.1.1.Has, .str r2.1.1.Text]), .d (.int .u64 r2.1.2)]), (16, .d (.int .u64 r2.1.2))] r2.2) := by
        subst hX
        refine OXT.step (i0 := 0) (is := [8]) (by kernel_rfl) (by kernel_rfl) ⟨?_, ?_, trivial⟩
        · refine OTk.M 1 <| OWk.G 1 [(4, Z245), (5, vB false), (7, .tup [.d (.agg [.int .i64 r2.1.1.Kind, .int .i64 r2.1.1.Unit, .str r2.1.1.Key, .bool r2.1.1.Has, .str r2.1.1.Text]), .d (.int .u64 r2.1.2)]), (8, .d (.ptr p1 0)), (16, .d (.int .u64 r2.1.2))] <| OWk.D <| OTk.D ?_
          exact thenS_n c767
        · refine OTk.M 1 <| OWk.G 1 [(3, .d (.dptr [.ptr p1 0])), (4, Z245), (5, vB false), (15, .d (.agg [.int .i64 r2.1.1.Kind, .int .i64 r2.1.1.Unit, .str r2.1.1.Key, .bool r2.1.1.Has, .str r2.1.1.Text])), (16, .d (.int .u64 r2.1.2))] <| OWk.D <| OTk.D ?_
          exact thenS_n c1022
      have c254 : X 7 254 (sp 20 [(3, .d (.dptr [.ptr p1 0])), (4, Z245), (5, vB false), (7, .tup [.d (.agg [.int .i64 r2.1.1.Kind, .int .i64 r2.1.1.Unit, .str r2.1.1.Key, .bool r2.1.1.Has, .str r2.1.1.Text]), .d (.int .u64 r2.1.2)])] r2.2) := by
        subst hX
        refine OXT.step (i0 := 0) (is := [8, 9]) (by kernel_rfl) (by kernel_rfl) ⟨?_, ?_, ?_, trivial⟩
        · refine OTk.M 1 <| OWk.G 1 [(4, Z245), (5, vB false), (7, .tup [.d (.agg [.int .i64 r2.1.1.Kind, .int .i64 r2.1.1.Unit, .str r2.1.1.Key, .bool r2.1.1.Has, .str r2.1.1.Text]), .d (.int .u64 r2.1.2)]), (8, .d (.ptr p1 0))] <| OWk.D <| OTk.D ?_
          exact thenS_n c255
        · refine OTk.M 1 <| OWk.G 1 [(3, .d (.dptr [.ptr p1 0])), (4, Z245), (5, vB false), (7, .tup [.d (.agg [.int .i64 r2.1.1.Kind, .int .i64 r2.1.1.Unit, .str r2.1.1.Key, .bool r2.1.1.Has, .str r2.1.1.Text]), .d (.int .u64 r2.1.2)]), (15, .d (.agg [.int .i64 r2.1.1.Kind, .int .i64 r2.1.1.Unit, .str r2.1.1.Key, .bool r2.1.1.Has, .str r2.1.1.Text]))] <| OWk.D <| OTk.D ?_
          exact thenS_n c510
        · refine OTk.M 1 <| OWk.G 1 [(3, .d (.dptr [.ptr p1 0])), (4, Z245), (5, vB false), (7, .tup [.d (.agg [.int .i64 r2.1.1.Kind, .int .i64 r2.1.1.Unit, .str r2.1.1.Key, .bool r2.1.1.Has, .str r2.1.1.Text]), .d (.int .u64 r2.1.2)]), (16, .d (.int .u64 r2.1.2))] <| OWk.D <| OTk.D ?_
          exact thenS_n c766
      have c126 : X 8 126 (sp 20 [(3, .d (.dptr [.ptr p1 0])), (4, Z245), (5, vB false), (14, .tup [.d (.agg [.int .i64 r2.1.1.Kind, .int .i64 r2.1.1.Unit, .str r2.1.1.Key, .bool r2.1.1.Has, .str r2.1.1.Text]), .d (.int .u64 r2.1.2)])] r2.2) := by
        subst hX
        refine OXT.step (i0 := 0) (is := [7]) (by kernel_rfl) (by kernel_rfl) ⟨?_, ?_, trivial⟩
        · refine OTk.M 1 <| OWk.G 1 [(4, Z245), (5, vB false), (8, .d (.ptr p1 0)), (14, .tup [.d (.agg [.int .i64 r2.1.1.Kind, .int .i64 r2.1.1.Unit, .str r2.1.1.Key, .bool r2.1.1.Has, .str r2.1.1.Text]), .d (.int .u64 r2.1.2)])] <| OWk.D <| OTk.D ?_
          exact thenS_n c127
        · refine OTk.M 1 <| OWk.G 1 [(3, .d (.dptr [.ptr p1 0])), (4, Z245), (5, vB false), (7, .tup [.d (.agg [.int .i64 r2.1.1.Kind, .int .i64 r2.1.1.Unit, .str r2.1.1.Key, .bool r2.1.1.Has, .str r2.1.1.Text]), .d (.int .u64 r2.1.2)])] <| OWk.D <| OTk.D ?_
          exact thenS_n c254
      have c62 : X 9 62 (sp 20 [(3, .d (.dptr [.ptr p1 0])), (4, Z245), (5, vB false), (9, .d (.ptr p0 0)), (13, .d (.int .u64 x1))] H) := by
        subst hX
        refine OXT.step (i0 := 0) (is := [6]) (by kernel_rfl) (by kernel_rfl) ⟨?_, ?_, trivial⟩
        · refine OTk.M 1 <| OWk.G 1 [(4, Z245), (5, vB false), (8, .d (.ptr p1 0)), (9, .d (.ptr p0 0)), (13, .d (.int .u64 x1))] <| OWk.D <| OTk.D ?_
          exact thenS_n c63
        · refine OTk.M 1 <| OWk.CH (some 14) [(3, .d (.dptr [.ptr p1 0])), (4, Z245), (5, vB false), (14, .tup [.d (.agg [.int .i64 r2.1.1.Kind, .int .i64 r2.1.1.Unit, .str r2.1.1.Key, .bool r2.1.1.Has, .str r2.1.1.Text]), .d (.int .u64 r2.1.2)])] (SB.sc (j_reader_note_ok hr)) <| OWk.D <| OTk.D ?_
          exact thenS_n c126
      have c30 : X 10 30 (sp 20 [(3, .d (.dptr [.ptr p1 0])), (4, Z245), (5, vB false), (9, .d (.ptr p0 0)), (12, .d (.ptr p1 1))] H) := by
        subst hX
        refine OXT.step (i0 := 0) (is := [5]) (by kernel_rfl) (by kernel_rfl) ⟨?_, ?_, trivial⟩
        · refine OTk.M 1 <| OWk.G 1 [(4, Z245), (5, vB false), (8, .d (.ptr p1 0)), (9, .d (.ptr p0 0)), (12, .d (.ptr p1 1))] <| OWk.D <| OTk.D ?_
          exact thenS_n c31
        · refine OTk.M 1 <| OWk.O (d := some 13) (s := .d (.int .u64 x1)) [(3, .d (.dptr [.ptr p1 0])), (4, Z245), (5, vB false), (9, .d (.ptr p0 0)), (13, .d (.int .u64 x1))] (BAt.ldH (c := (cI .u64).cell) hx1 (by kernel_rfl)) <| OWk.D <| OTk.D ?_
          exact thenS_n c62
      have c14 : X 11 14 (sp 20 [(3, .d (.dptr [.ptr p1 0])), (4, Z245), (5, vB false), (9, .d (.ptr p0 0)), (11, .d (.ptr p1 0))] H) := by
        subst hX
        refine OXT.step (i0 := 0) (is := [4]) (by kernel_rfl) (by kernel_rfl) ⟨?_, ?_, trivial⟩
        · refine OTk.M 1 <| OWk.G 1 [(4, Z245), (5, vB false), (8, .d (.ptr p1 0)), (9, .d (.ptr p0 0)), (11, .d (.ptr p1 0))] <| OWk.D <| OTk.D ?_
          exact thenS_n c15
        · refine OTk.M 1 <| OWk.G 1 [(3, .d (.dptr [.ptr p1 0])), (4, Z245), (5, vB false), (9, .d (.ptr p0 0)), (12, .d (.ptr p1 1))] <| OWk.D <| OTk.D ?_
          exact thenS_n c30
      have c6 : X 12 6 (sp 20 [(3, .d (.dptr [.ptr p1 0])), (4, Z245), (5, vB false), (9, .d (.ptr p0 0)), (10, .d (.ptr p1 0))] H) := by
        subst hX
        refine OXT.step (i0 := 0) (is := [3]) (by kernel_rfl) (by kernel_rfl) ⟨?_, ?_, trivial⟩
        · refine OTk.M 1 <| OWk.G 1 [(4, Z245), (5, vB false), (8, .d (.ptr p1 0)), (9, .d (.ptr p0 0)), (10, .d (.ptr p1 0))] <| OWk.D <| OTk.D ?_
          exact thenS_n c7
        · refine OTk.M 1 <| OWk.G 1 [(3, .d (.dptr [.ptr p1 0])), (4, Z245), (5, vB false), (9, .d (.ptr p0 0)), (11, .d (.ptr p1 0))] <| OWk.D <| OTk.D ?_
          exact thenS_n c14
      have c2 : X 13 2 (sp 20 [(3, .d (.dptr [.ptr p1 0])), (4, Z245), (5, vB false), (9, .d (.ptr p0 0))] H) := by
        subst hX
        refine OXT.step (i0 := 0) (is := [2]) (by kernel_rfl) (by kernel_rfl) ⟨?_, ?_, trivial⟩
        · refine OTk.M 1 <| OWk.G 1 [(3, .d (.dptr [.ptr p1 0])), (4, Z245), (5, vB false), (8, .d (.ptr p1 0)), (9, .d (.ptr p0 0))] <| OWk.D <| OTk.D ?_
          exact thenS_n c3
        · refine OTk.M 1 <| OWk.G 1 [(3, .d (.dptr [.ptr p1 0])), (4, Z245), (5, vB false), (9, .d (.ptr p0 0)), (10, .d (.ptr p1 0))] <| OWk.D <| OTk.D ?_
          exact thenS_n c6
      have c60 : X 10 60 (sp 20 [(0, .d (.ptr p0 0)), (3, .d (.dptr [.ptr p1 0])), (4, Z245), (5, vB false), (13, .d (.int .u64 x1))] H) := by
        subst hX
        refine OXT.step (i0 := 0) (is := [1]) (by kernel_rfl) (by kernel_rfl) ⟨?_, ?_, trivial⟩
        · refine OTk.M 1 <| OWk.G 1 [(0, .d (.ptr p0 0)), (4, Z245), (5, vB false), (8, .d (.ptr p1 0)), (13, .d (.int .u64 x1))] <| OWk.D <| OTk.D ?_
          exact thenS_n c61
        · refine OTk.M 1 <| OWk.G 1 [(3, .d (.dptr [.ptr p1 0])), (4, Z245), (5, vB false), (9, .d (.ptr p0 0)), (13, .d (.int .u64 x1))] <| OWk.D <| OTk.D ?_
          exact thenS_n c62
      have c28 : X 11 28 (sp 20 [(0, .d (.ptr p0 0)), (3, .d (.dptr [.ptr p1 0])), (4, Z245), (5, vB false), (12, .d (.ptr p1 1))] H) := by
        subst hX
        refine OXT.step (i0 := 0) (is := [1, 5]) (by kernel_rfl) (by kernel_rfl) ⟨?_, ?_, ?_, trivial⟩
        · refine OTk.M 1 <| OWk.G 1 [(0, .d (.ptr p0 0)), (4, Z245), (5, vB false), (8, .d (.ptr p1 0)), (12, .d (.ptr p1 1))] <| OWk.D <| OTk.D ?_
          exact thenS_n c29
        · refine OTk.M 1 <| OWk.G 1 [(3, .d (.dptr [.ptr p1 0])), (4, Z245), (5, vB false), (9, .d (.ptr p0 0)), (12, .d (.ptr p1 1))] <| OWk.D <| OTk.D ?_
          exact thenS_n c30
        · refine OTk.M 1 <| OWk.O (d := some 13) (s := .d (.int .u64 x1)) [(0, .d (.ptr p0 0)), (3, .d (.dptr [.ptr p1 0])), (4, Z245), (5, vB false), (13, .d (.int .u64 x1))] (BAt.ldH (c := (cI .u64).cell) hx1 (by kernel_rfl)) <| OWk.D <| OTk.D ?_
          exact thenS_n c60
      have c12 : X 12 12 (sp 20 [(0, .d (.ptr p0 0)), (3, .d (.dptr [.ptr p1 0])), (4, Z245), (5, vB false), (11, .d (.ptr p1 0))] H) := by
        subst hX
        refine OXT.step (i0 := 0) (is := [1, 4]) (by kernel_rfl) (by kernel_rfl) ⟨?_, ?_, ?_, trivial⟩
        · refine OTk.M 1 <| OWk.G 1 [(0, .d (.ptr p0 0)), (4, Z245), (5, vB false), (8, .d (.ptr p1 0)), (11, .d (.ptr p1 0))] <| OWk.D <| OTk.D ?_
          exact thenS_n c13
        · refine OTk.M 1 <| OWk.G 1 [(3, .d (.dptr [.ptr p1 0])), (4, Z245), (5, vB false), (9, .d (.ptr p0 0)), (11, .d (.ptr p1 0))] <| OWk.D <| OTk.D ?_
          exact thenS_n c14
        · refine OTk.M 1 <| OWk.G 1 [(0, .d (.ptr p0 0)), (3, .d (.dptr [.ptr p1 0])), (4, Z245), (5, vB false), (12, .d (.ptr p1 1))] <| OWk.D <| OTk.D ?_
          exact thenS_n c28
      have c4 : X 13 4 (sp 20 [(0, .d (.ptr p0 0)), (3, .d (.dptr [.ptr p1 0])), (4, Z245), (5, vB false), (10, .d (.ptr p1 0))] H) := by
        subst hX
        refine OXT.step (i0 := 0) (is := [1, 3]) (by kernel_rfl) (by kernel_rfl) ⟨?_, ?_, ?_, trivial⟩
        · refine OTk.M 1 <| OWk.G 1 [(0, .d (.ptr p0 0)), (4, Z245), (5, vB false), (8, .d (.ptr p1 0)), (10, .d (.ptr p1 0))] <| OWk.D <| OTk.D ?_
          exact thenS_n c5
        · refine OTk.M 1 <| OWk.G 1 [(3, .d (.dptr [.ptr p1 0])), (4, Z245), (5, vB false), (9, .d (.ptr p0 0)), (10, .d (.ptr p1 0))] <| OWk.D <| OTk.D ?_
          exact thenS_n c6
        · refine OTk.M 1 <| OWk.G 1 [(0, .d (.ptr p0 0)), (3, .d (.dptr [.ptr p1 0])), (4, Z245), (5, vB false), (11, .d (.ptr p1 0))] <| OWk.D <| OTk.D ?_
          exact thenS_n c12
      have c0 : X 14 0 (sp 20 [(0, .d (.ptr p0 0)), (3, .d (.dptr [.ptr p1 0])), (4, Z245), (5, vB false)] H) := by
        subst hX
        refine OXT.step (i0 := 0) (is := [1, 2]) (by kernel_rfl) (by kernel_rfl) ⟨?_, ?_, ?_, trivial⟩
        · refine OTk.M 1 <| OWk.G 1 [(0, .d (.ptr p0 0)), (3, .d (.dptr [.ptr p1 0])), (4, Z245), (5, vB false), (8, .d (.ptr p1 0))] <| OWk.D <| OTk.D ?_
          exact thenS_n c1
        · refine OTk.M 1 <| OWk.G 1 [(3, .d (.dptr [.ptr p1 0])), (4, Z245), (5, vB false), (9, .d (.ptr p0 0))] <| OWk.D <| OTk.D ?_
          exact thenS_n c2
        · refine OTk.M 1 <| OWk.G 1 [(0, .d (.ptr p0 0)), (3, .d (.dptr [.ptr p1 0])), (4, Z245), (5, vB false), (10, .d (.ptr p1 0))] <| OWk.D <| OTk.D ?_
          exact thenS_n c4
      exact c0
  · replace h := pn_boom h
    obtain ⟨Hd, hd, h⟩ := bind_inv h
    cases h
    refine SB.of_defer (u := some bt) (st1 := (sp 20 [(0, .d (.ptr p0 0)), (3, .d (.dptr [.ptr p1 0])), (4, Z245), (5, vB false)] H)) (H2 := bH) (H3 := Hd) (x := (.dptr [.ptr p1 0])) (t6 := 6) (tc := 3) (df := 86) Try.func73 rfl rfl rfl rfl rfl rfl rfl rfl rfl (by kernel_rfl) ?_ (by kernel_rfl) (by kernel_rfl) (fun ds => ?_) (j_reader_next_1_s_ok hd)
    · refine SW.kp 20 H [0, 1] [(0, .d (.ptr p0 0)), (1, .d (.ptr p1 0))] (by kernel_rfl) <| SW.regionK <| OWk.bxf 20 H (d := 3) (ds := [.ptr p1 0]) [0, 3] [(0, .d (.ptr p0 0)), (3, .d (.dptr [.ptr p1 0]))] (by kernel_rfl) (by kernel_rfl) <| OWk.G 2 [(0, .d (.ptr p0 0)), (3, .d (.dptr [.ptr p1 0])), (4, Z245), (5, vB false)] <| OWk.D ?_
      exact rfl
    · refine SWd.seq <| SWd.keep 20 H [0, 3, 4, 5] [(0, .d (.ptr p0 0)), (3, .d (.dptr [.ptr p1 0])), (4, Z245), (5, vB false)] (by kernel_rfl) ?_
      refine SWd.regX (by kernel_rfl) (fun X hX => ?_)
      have c63 : X 8 63 (sp 20 [(4, Z245), (5, vB false), (8, .d (.ptr p1 0)), (9, .d (.ptr p0 0)), (13, .d (.int .u64 x1))] H) := by
        subst hX
        refine OXT.step (i0 := 6) (is := []) (by kernel_rfl) (by kernel_rfl) ⟨?_, trivial⟩
        · refine OTk.boomK (d := some 14) (j_reader_note_ok hr) (by kernel_rfl) (by kernel_rfl) <| thenS_p <| thenS_p ?_
          exact ⟨rfl, rfl, by kernel_rfl, by kernel_rfl⟩
      have c31 : X 9 31 (sp 20 [(4, Z245), (5, vB false), (8, .d (.ptr p1 0)), (9, .d (.ptr p0 0)), (12, .d (.ptr p1 1))] H) := by
        subst hX
        refine OXT.step (i0 := 5) (is := []) (by kernel_rfl) (by kernel_rfl) ⟨?_, trivial⟩
        · refine OTk.M 1 <| OWk.O (d := some 13) (s := .d (.int .u64 x1)) [(4, Z245), (5, vB false), (8, .d (.ptr p1 0)), (9, .d (.ptr p0 0)), (13, .d (.int .u64 x1))] (BAt.ldH (c := (cI .u64).cell) hx1 (by kernel_rfl)) <| OWk.D <| OTk.D ?_
          exact thenS_n c63
      have c15 : X 10 15 (sp 20 [(4, Z245), (5, vB false), (8, .d (.ptr p1 0)), (9, .d (.ptr p0 0)), (11, .d (.ptr p1 0))] H) := by
        subst hX
        refine OXT.step (i0 := 4) (is := []) (by kernel_rfl) (by kernel_rfl) ⟨?_, trivial⟩
        · refine OTk.M 1 <| OWk.G 1 [(4, Z245), (5, vB false), (8, .d (.ptr p1 0)), (9, .d (.ptr p0 0)), (12, .d (.ptr p1 1))] <| OWk.D <| OTk.D ?_
          exact thenS_n c31
      have c7 : X 11 7 (sp 20 [(4, Z245), (5, vB false), (8, .d (.ptr p1 0)), (9, .d (.ptr p0 0)), (10, .d (.ptr p1 0))] H) := by
        subst hX
        refine OXT.step (i0 := 3) (is := []) (by kernel_rfl) (by kernel_rfl) ⟨?_, trivial⟩
        · refine OTk.M 1 <| OWk.G 1 [(4, Z245), (5, vB false), (8, .d (.ptr p1 0)), (9, .d (.ptr p0 0)), (11, .d (.ptr p1 0))] <| OWk.D <| OTk.D ?_
          exact thenS_n c15
      have c3 : X 12 3 (sp 20 [(3, .d (.dptr [.ptr p1 0])), (4, Z245), (5, vB false), (8, .d (.ptr p1 0)), (9, .d (.ptr p0 0))] H) := by
        subst hX
        refine OXT.step (i0 := 2) (is := []) (by kernel_rfl) (by kernel_rfl) ⟨?_, trivial⟩
        · refine OTk.M 1 <| OWk.G 1 [(4, Z245), (5, vB false), (8, .d (.ptr p1 0)), (9, .d (.ptr p0 0)), (10, .d (.ptr p1 0))] <| OWk.D <| OTk.D ?_
          exact thenS_n c7
      have c61 : X 9 61 (sp 20 [(0, .d (.ptr p0 0)), (4, Z245), (5, vB false), (8, .d (.ptr p1 0)), (13, .d (.int .u64 x1))] H) := by
        subst hX
        refine OXT.step (i0 := 1) (is := []) (by kernel_rfl) (by kernel_rfl) ⟨?_, trivial⟩
        · refine OTk.M 1 <| OWk.G 1 [(4, Z245), (5, vB false), (8, .d (.ptr p1 0)), (9, .d (.ptr p0 0)), (13, .d (.int .u64 x1))] <| OWk.D <| OTk.D ?_
          exact thenS_n c63
      have c29 : X 10 29 (sp 20 [(0, .d (.ptr p0 0)), (4, Z245), (5, vB false), (8, .d (.ptr p1 0)), (12, .d (.ptr p1 1))] H) := by
        subst hX
        refine OXT.step (i0 := 1) (is := [5]) (by kernel_rfl) (by kernel_rfl) ⟨?_, ?_, trivial⟩
        · refine OTk.M 1 <| OWk.G 1 [(4, Z245), (5, vB false), (8, .d (.ptr p1 0)), (9, .d (.ptr p0 0)), (12, .d (.ptr p1 1))] <| OWk.D <| OTk.D ?_
          exact thenS_n c31
        · refine OTk.M 1 <| OWk.O (d := some 13) (s := .d (.int .u64 x1)) [(0, .d (.ptr p0 0)), (4, Z245), (5, vB false), (8, .d (.ptr p1 0)), (13, .d (.int .u64 x1))] (BAt.ldH (c := (cI .u64).cell) hx1 (by kernel_rfl)) <| OWk.D <| OTk.D ?_
          exact thenS_n c61
      have c13 : X 11 13 (sp 20 [(0, .d (.ptr p0 0)), (4, Z245), (5, vB false), (8, .d (.ptr p1 0)), (11, .d (.ptr p1 0))] H) := by
        subst hX
        refine OXT.step (i0 := 1) (is := [4]) (by kernel_rfl) (by kernel_rfl) ⟨?_, ?_, trivial⟩
        · refine OTk.M 1 <| OWk.G 1 [(4, Z245), (5, vB false), (8, .d (.ptr p1 0)), (9, .d (.ptr p0 0)), (11, .d (.ptr p1 0))] <| OWk.D <| OTk.D ?_
          exact thenS_n c15
        · refine OTk.M 1 <| OWk.G 1 [(0, .d (.ptr p0 0)), (4, Z245), (5, vB false), (8, .d (.ptr p1 0)), (12, .d (.ptr p1 1))] <| OWk.D <| OTk.D ?_
          exact thenS_n c29
      have c5 : X 12 5 (sp 20 [(0, .d (.ptr p0 0)), (4, Z245), (5, vB false), (8, .d (.ptr p1 0)), (10, .d (.ptr p1 0))] H) := by
        subst hX
        refine OXT.step (i0 := 1) (is := [3]) (by kernel_rfl) (by kernel_rfl) ⟨?_, ?_, trivial⟩
        · refine OTk.M 1 <| OWk.G 1 [(4, Z245), (5, vB false), (8, .d (.ptr p1 0)), (9, .d (.ptr p0 0)), (10, .d (.ptr p1 0))] <| OWk.D <| OTk.D ?_
          exact thenS_n c7
        · refine OTk.M 1 <| OWk.G 1 [(0, .d (.ptr p0 0)), (4, Z245), (5, vB false), (8, .d (.ptr p1 0)), (11, .d (.ptr p1 0))] <| OWk.D <| OTk.D ?_
          exact thenS_n c13
      have c1 : X 13 1 (sp 20 [(0, .d (.ptr p0 0)), (3, .d (.dptr [.ptr p1 0])), (4, Z245), (5, vB false), (8, .d (.ptr p1 0))] H) := by
        subst hX
        refine OXT.step (i0 := 1) (is := [2]) (by kernel_rfl) (by kernel_rfl) ⟨?_, ?_, trivial⟩
        · refine OTk.M 1 <| OWk.G 1 [(3, .d (.dptr [.ptr p1 0])), (4, Z245), (5, vB false), (8, .d (.ptr p1 0)), (9, .d (.ptr p0 0))] <| OWk.D <| OTk.D ?_
          exact thenS_n c3
        · refine OTk.M 1 <| OWk.G 1 [(0, .d (.ptr p0 0)), (4, Z245), (5, vB false), (8, .d (.ptr p1 0)), (10, .d (.ptr p1 0))] <| OWk.D <| OTk.D ?_
          exact thenS_n c5
      have c62 : X 9 62 (sp 20 [(3, .d (.dptr [.ptr p1 0])), (4, Z245), (5, vB false), (9, .d (.ptr p0 0)), (13, .d (.int .u64 x1))] H) := by
        subst hX
        refine OXT.step (i0 := 0) (is := [6]) (by kernel_rfl) (by kernel_rfl) ⟨?_, ?_, trivial⟩
        · refine OTk.M 1 <| OWk.G 1 [(4, Z245), (5, vB false), (8, .d (.ptr p1 0)), (9, .d (.ptr p0 0)), (13, .d (.int .u64 x1))] <| OWk.D <| OTk.D ?_
          exact thenS_n c63
        · refine OTk.boomK (d := some 14) (j_reader_note_ok hr) (by kernel_rfl) (by kernel_rfl) <| thenS_p <| thenS_p ?_
          exact ⟨rfl, rfl, by kernel_rfl, by kernel_rfl⟩
      have c30 : X 10 30 (sp 20 [(3, .d (.dptr [.ptr p1 0])), (4, Z245), (5, vB false), (9, .d (.ptr p0 0)), (12, .d (.ptr p1 1))] H) := by
        subst hX
        refine OXT.step (i0 := 0) (is := [5]) (by kernel_rfl) (by kernel_rfl) ⟨?_, ?_, trivial⟩
        · refine OTk.M 1 <| OWk.G 1 [(4, Z245), (5, vB false), (8, .d (.ptr p1 0)), (9, .d (.ptr p0 0)), (12, .d (.ptr p1 1))] <| OWk.D <| OTk.D ?_
          exact thenS_n c31
        · refine OTk.M 1 <| OWk.O (d := some 13) (s := .d (.int .u64 x1)) [(3, .d (.dptr [.ptr p1 0])), (4, Z245), (5, vB false), (9, .d (.ptr p0 0)), (13, .d (.int .u64 x1))] (BAt.ldH (c := (cI .u64).cell) hx1 (by kernel_rfl)) <| OWk.D <| OTk.D ?_
          exact thenS_n c62
      have c14 : X 11 14 (sp 20 [(3, .d (.dptr [.ptr p1 0])), (4, Z245), (5, vB false), (9, .d (.ptr p0 0)), (11, .d (.ptr p1 0))] H) := by
        subst hX
        refine OXT.step (i0 := 0) (is := [4]) (by kernel_rfl) (by kernel_rfl) ⟨?_, ?_, trivial⟩
        · refine OTk.M 1 <| OWk.G 1 [(4, Z245), (5, vB false), (8, .d (.ptr p1 0)), (9, .d (.ptr p0 0)), (11, .d (.ptr p1 0))] <| OWk.D <| OTk.D ?_
          exact thenS_n c15
        · refine OTk.M 1 <| OWk.G 1 [(3, .d (.dptr [.ptr p1 0])), (4, Z245), (5, vB false), (9, .d (.ptr p0 0)), (12, .d (.ptr p1 1))] <| OWk.D <| OTk.D ?_
          exact thenS_n c30
      have c6 : X 12 6 (sp 20 [(3, .d (.dptr [.ptr p1 0])), (4, Z245), (5, vB false), (9, .d (.ptr p0 0)), (10, .d (.ptr p1 0))] H) := by
        subst hX
        refine OXT.step (i0 := 0) (is := [3]) (by kernel_rfl) (by kernel_rfl) ⟨?_, ?_, trivial⟩
        · refine OTk.M 1 <| OWk.G 1 [(4, Z245), (5, vB false), (8, .d (.ptr p1 0)), (9, .d (.ptr p0 0)), (10, .d (.ptr p1 0))] <| OWk.D <| OTk.D ?_
          exact thenS_n c7
        · refine OTk.M 1 <| OWk.G 1 [(3, .d (.dptr [.ptr p1 0])), (4, Z245), (5, vB false), (9, .d (.ptr p0 0)), (11, .d (.ptr p1 0))] <| OWk.D <| OTk.D ?_
          exact thenS_n c14
      have c2 : X 13 2 (sp 20 [(3, .d (.dptr [.ptr p1 0])), (4, Z245), (5, vB false), (9, .d (.ptr p0 0))] H) := by
        subst hX
        refine OXT.step (i0 := 0) (is := [2]) (by kernel_rfl) (by kernel_rfl) ⟨?_, ?_, trivial⟩
        · refine OTk.M 1 <| OWk.G 1 [(3, .d (.dptr [.ptr p1 0])), (4, Z245), (5, vB false), (8, .d (.ptr p1 0)), (9, .d (.ptr p0 0))] <| OWk.D <| OTk.D ?_
          exact thenS_n c3
        · refine OTk.M 1 <| OWk.G 1 [(3, .d (.dptr [.ptr p1 0])), (4, Z245), (5, vB false), (9, .d (.ptr p0 0)), (10, .d (.ptr p1 0))] <| OWk.D <| OTk.D ?_
          exact thenS_n c6
      have c60 : X 10 60 (sp 20 [(0, .d (.ptr p0 0)), (3, .d (.dptr [.ptr p1 0])), (4, Z245), (5, vB false), (13, .d (.int .u64 x1))] H) := by
        subst hX
        refine OXT.step (i0 := 0) (is := [1]) (by kernel_rfl) (by kernel_rfl) ⟨?_, ?_, trivial⟩
        · refine OTk.M 1 <| OWk.G 1 [(0, .d (.ptr p0 0)), (4, Z245), (5, vB false), (8, .d (.ptr p1 0)), (13, .d (.int .u64 x1))] <| OWk.D <| OTk.D ?_
          exact thenS_n c61
        · refine OTk.M 1 <| OWk.G 1 [(3, .d (.dptr [.ptr p1 0])), (4, Z245), (5, vB false), (9, .d (.ptr p0 0)), (13, .d (.int .u64 x1))] <| OWk.D <| OTk.D ?_
          exact thenS_n c62
      have c28 : X 11 28 (sp 20 [(0, .d (.ptr p0 0)), (3, .d (.dptr [.ptr p1 0])), (4, Z245), (5, vB false), (12, .d (.ptr p1 1))] H) := by
        subst hX
        refine OXT.step (i0 := 0) (is := [1, 5]) (by kernel_rfl) (by kernel_rfl) ⟨?_, ?_, ?_, trivial⟩
        · refine OTk.M 1 <| OWk.G 1 [(0, .d (.ptr p0 0)), (4, Z245), (5, vB false), (8, .d (.ptr p1 0)), (12, .d (.ptr p1 1))] <| OWk.D <| OTk.D ?_
          exact thenS_n c29
        · refine OTk.M 1 <| OWk.G 1 [(3, .d (.dptr [.ptr p1 0])), (4, Z245), (5, vB false), (9, .d (.ptr p0 0)), (12, .d (.ptr p1 1))] <| OWk.D <| OTk.D ?_
          exact thenS_n c30
        · refine OTk.M 1 <| OWk.O (d := some 13) (s := .d (.int .u64 x1)) [(0, .d (.ptr p0 0)), (3, .d (.dptr [.ptr p1 0])), (4, Z245), (5, vB false), (13, .d (.int .u64 x1))] (BAt.ldH (c := (cI .u64).cell) hx1 (by kernel_rfl)) <| OWk.D <| OTk.D ?_
          exact thenS_n c60
      have c12 : X 12 12 (sp 20 [(0, .d (.ptr p0 0)), (3, .d (.dptr [.ptr p1 0])), (4, Z245), (5, vB false), (11, .d (.ptr p1 0))] H) := by
        subst hX
        refine OXT.step (i0 := 0) (is := [1, 4]) (by kernel_rfl) (by kernel_rfl) ⟨?_, ?_, ?_, trivial⟩
        · refine OTk.M 1 <| OWk.G 1 [(0, .d (.ptr p0 0)), (4, Z245), (5, vB false), (8, .d (.ptr p1 0)), (11, .d (.ptr p1 0))] <| OWk.D <| OTk.D ?_
          exact thenS_n c13
        · refine OTk.M 1 <| OWk.G 1 [(3, .d (.dptr [.ptr p1 0])), (4, Z245), (5, vB false), (9, .d (.ptr p0 0)), (11, .d (.ptr p1 0))] <| OWk.D <| OTk.D ?_
          exact thenS_n c14
        · refine OTk.M 1 <| OWk.G 1 [(0, .d (.ptr p0 0)), (3, .d (.dptr [.ptr p1 0])), (4, Z245), (5, vB false), (12, .d (.ptr p1 1))] <| OWk.D <| OTk.D ?_
          exact thenS_n c28
      have c4 : X 13 4 (sp 20 [(0, .d (.ptr p0 0)), (3, .d (.dptr [.ptr p1 0])), (4, Z245), (5, vB false), (10, .d (.ptr p1 0))] H) := by
        subst hX
        refine OXT.step (i0 := 0) (is := [1, 3]) (by kernel_rfl) (by kernel_rfl) ⟨?_, ?_, ?_, trivial⟩
        · refine OTk.M 1 <| OWk.G 1 [(0, .d (.ptr p0 0)), (4, Z245), (5, vB false), (8, .d (.ptr p1 0)), (10, .d (.ptr p1 0))] <| OWk.D <| OTk.D ?_
          exact thenS_n c5
        · refine OTk.M 1 <| OWk.G 1 [(3, .d (.dptr [.ptr p1 0])), (4, Z245), (5, vB false), (9, .d (.ptr p0 0)), (10, .d (.ptr p1 0))] <| OWk.D <| OTk.D ?_
          exact thenS_n c6
        · refine OTk.M 1 <| OWk.G 1 [(0, .d (.ptr p0 0)), (3, .d (.dptr [.ptr p1 0])), (4, Z245), (5, vB false), (11, .d (.ptr p1 0))] <| OWk.D <| OTk.D ?_
          exact thenS_n c12
      have c0 : X 14 0 (sp 20 [(0, .d (.ptr p0 0)), (3, .d (.dptr [.ptr p1 0])), (4, Z245), (5, vB false)] H) := by
        subst hX
        refine OXT.step (i0 := 0) (is := [1, 2]) (by kernel_rfl) (by kernel_rfl) ⟨?_, ?_, ?_, trivial⟩
        · refine OTk.M 1 <| OWk.G 1 [(0, .d (.ptr p0 0)), (3, .d (.dptr [.ptr p1 0])), (4, Z245), (5, vB false), (8, .d (.ptr p1 0))] <| OWk.D <| OTk.D ?_
          exact thenS_n c1
        · refine OTk.M 1 <| OWk.G 1 [(3, .d (.dptr [.ptr p1 0])), (4, Z245), (5, vB false), (9, .d (.ptr p0 0))] <| OWk.D <| OTk.D ?_
          exact thenS_n c2
        · refine OTk.M 1 <| OWk.G 1 [(0, .d (.ptr p0 0)), (3, .d (.dptr [.ptr p1 0])), (4, Z245), (5, vB false), (10, .d (.ptr p1 0))] <| OWk.D <| OTk.D ?_
          exact thenS_n c4
      exact c0
def j_notes_1_l1 (fuel : Nat) (Y : (Note → Hp → Option Hp)) (p1 : (List UInt8)) (p2 : (Option Nat)) (q1 : (Hp × Nat)) (y2 : Hp) : Option ((Hp) ⊕ ((Hp) ⊕ ((Hp)))) :=
  (hGet (cI .i64).cell y2 q1.2 1).bind fun x3 =>
  bif (decide (x3 < (p1.length : Int))) then
    p2.bind fun i4 =>
    (j_reader_next fuel q1.2 i4 y2).bind fun o =>
    Pn.el (fun r5 =>
      bif (!r5.1.2) then
        some (.inr (.inr r5.2))
      else
        (Y r5.1.1 r5.2).bind fun H6 =>
        (hGet (cI .i64).cell H6 q1.2 1).bind fun x7 =>
        p2.bind fun i8 =>
        (hSet (cI .i64) H6 i8 0 x7).bind fun H9 =>
        some (.inl H9))
    (fun bt bH => none) o
  else
    some (.inr (.inl y2))
def j_notes_1 (fuel : Nat) (Y : (Note → Hp → Option Hp)) (p1 : (List UInt8)) (p2 : (Option Nat)) (H : Hp) : Option (Hp) :=
  (hNew H (.cells [.d (.str p1), .d (.int .i64 0)])).bind fun q1 =>
  (iter (j_notes_1_l1 fuel Y p1 p2 q1) fuel q1.1).bind (Sum.elim (fun v11 =>
    some v11) (fun r12 =>
    some r12))
def Z294 (x0 : (List UInt8)) : SV := .d (.agg [.str x0, .int .i64 0])
def Z295 (x0 : Int) (x1 : (List UInt8)) : SV := vB (decide (x0 < (x1.length : Int)))
def Z296 (x0 : ((Note × Bool) × Hp)) : SV := .box [vI x0.1.1.Kind, vI x0.1.1.Unit, vS x0.1.1.Key, vB x0.1.1.Has, vS x0.1.1.Text]
def Z297 (x0 : ((Note × Bool) × Hp)) : SV := .d (.agg [.int .i64 x0.1.1.Kind, .int .i64 x0.1.1.Unit, .str x0.1.1.Key, .bool x0.1.1.Has, .str x0.1.1.Text])
theorem j_notes_1_ok {fuel : Nat} {Y : (Note → Hp → Option Hp)} {p1 : (List UInt8)} {p2 : (Option Nat)} {H : Hp} {r : Hp} {l : Nat} {C : Gh → World → Prop} (hC : CFr C) (hY : ∀ x H H', Y x H = some H' → YB Try.prog C l [.d (encNote x)] H H') (h : j_notes_1 fuel Y p1 p2 H = some r) : SBC Try.prog C 72 [.d (.fn (.yield l) [] []), .d (.dptr [.str p1]), .d (.dptr [cP.enc p2])] H r := by
  refine SBC.of_SWC Try.func72 rfl rfl ?_
  unfold j_notes_1 at h
  refine SWC.kp 38 H [0, 1, 2] [(0, .d (.fn (.yield l) [] [])), (1, .d (.dptr [.str p1])), (2, .d (.dptr [cP.enc p2]))] (by kernel_rfl) <| SWC.seq hC <| SWC.of <| SW.regionK <| OWk.sg 38 H [] [0, 1, 2, 8] 2 [(0, .d (.fn (.yield l) [] [])), (1, .d (.dptr [.str p1])), (2, .d (.dptr [cP.enc p2])), (8, Z294 p1)] (by kernel_rfl) ?_
  obtain ⟨q1, hq, h⟩ := bind_inv h
  refine OWk.hnew 38 q1.1 (d := some 9) (b := false) [] [0, 1, 2, 9] [(0, .d (.fn (.yield l) [] [])), (1, .d (.dptr [.str p1])), (2, .d (.dptr [cP.enc p2])), (9, .d (.ptr q1.2 0))] hq (by kernel_rfl) rfl (by kernel_rfl) <| OWk.sg 38 q1.1 [] [0, 1, 2, 4] 1 [(0, .d (.fn (.yield l) [] [])), (1, .d (.dptr [.str p1])), (2, .d (.dptr [cP.enc p2])), (4, .d (.ptr q1.2 0))] (by kernel_rfl) <| OWk.done (by kernel_rfl) <| thenS_n <| SWC.block ?_
  obtain ⟨z10, hit, h⟩ := bind_inv h
  refine SWC.itH hC 38 [0, 1, 2, 4] (fun y2 => [(0, .d (.fn (.yield l) [] [])), (1, .d (.dptr [.str p1])), (2, .d (.dptr [cP.enc p2])), (4, .d (.ptr q1.2 0))]) (fun y2 => y2) (fun b e s => ((∃ v11, b = (.inl v11) ∧ (e = .exit 0 ∧ s = (sp 38 [] v11))) ∨ (∃ r12, b = (.inr r12) ∧ (e = .ret ∧ (e = .normal ∨ e = .ret) ∧ s.H = r12)))) hit (by kernel_rfl) (fun y2 o h => ?_) ?_
  · unfold j_notes_1_l1 at h
    refine SWC.seq hC <| SWC.seq hC <| SWC.of <| SW.regionDk (by kernel_rfl) (by kernel_rfl) <| OBk.sg 38 y2 [] [0, 1, 2, 4, 12] 3 [(0, .d (.fn (.yield l) [] [])), (1, .d (.dptr [.str p1])), (2, .d (.dptr [cP.enc p2])), (4, .d (.ptr q1.2 0)), (12, .d (.ptr q1.2 1))] (by kernel_rfl) (by kernel_rfl) ?_
    obtain ⟨x3, hx, h⟩ := bind_inv h
    refine OBk.on 38 y2 (d := some 13) (s := vI x3) [0, 1, 2, 4, 13] [(0, .d (.fn (.yield l) [] [])), (1, .d (.dptr [.str p1])), (2, .d (.dptr [cP.enc p2])), (4, .d (.ptr q1.2 0)), (13, vI x3)] (by kernel_rfl) (BAt.ldH (c := (cI .i64).cell) hx (by kernel_rfl)) (by kernel_rfl) <| OBk.sg 38 y2 [] [0, 1, 2, 4, 13, 14] 1 [(0, .d (.fn (.yield l) [] [])), (1, .d (.dptr [.str p1])), (2, .d (.dptr [cP.enc p2])), (4, .d (.ptr q1.2 0)), (13, vI x3), (14, vS p1)] (by kernel_rfl) (by kernel_rfl) <| OBk.sg 38 y2 [] [0, 1, 2, 4, 13, 15] 1 [(0, .d (.fn (.yield l) [] [])), (1, .d (.dptr [.str p1])), (2, .d (.dptr [cP.enc p2])), (4, .d (.ptr q1.2 0)), (13, vI x3), (15, vI (p1.length : Int))] (by kernel_rfl) (by kernel_rfl) <| OBk.sg 38 y2 [] [0, 1, 2, 4, 16] 1 [(0, .d (.fn (.yield l) [] [])), (1, .d (.dptr [.str p1])), (2, .d (.dptr [cP.enc p2])), (4, .d (.ptr q1.2 0)), (16, Z295 x3 p1)] (by kernel_rfl) (by kernel_rfl) <| OBk.done (by kernel_rfl) <| thenS_n ?_
    refine SWC.condB (b := (decide (x3 < (p1.length : Int)))) (by kernel_rfl) (fun hc => ?_) (fun hc => ?_)
    · replace h := bif_t hc h
      refine SWC.of <| SW.skip <| thenS_n <| SWC.block <| SWC.seq hC <| SWC.of <| SW.regionOT <| OTk.pre 2 (by kernel_rfl) <| OWk.sg 38 y2 [] [0, 1, 2, 4, 18, 19] 2 [(0, .d (.fn (.yield l) [] [])), (1, .d (.dptr [.str p1])), (2, .d (.dptr [cP.enc p2])), (4, .d (.ptr q1.2 0)), (18, .d (.ptr q1.2 0)), (19, .d (cP.enc p2))] (by kernel_rfl) <| OWk.done (by kernel_rfl) ?_
      obtain ⟨i4, hp, h⟩ := bind_inv h
      refine OTk.asP p2 (fun p => (sp 38 [(0, .d (.fn (.yield l) [] [])), (1, .d (.dptr [.str p1])), (2, .d (.dptr [cP.enc p2])), (4, .d (.ptr q1.2 0)), (18, .d (.ptr q1.2 0)), (19, .d (cP.enc p))] y2)) (by kernel_rfl) hp ?_
      obtain ⟨o, hr, h⟩ := bind_inv h
      rcases o with r5 | ⟨bt, bH⟩
      · replace h := pn_ok h
        refine OTk.pre 9 (by kernel_rfl) <| OWk.clH (d := some 20) 38 [0, 1, 2, 4, 20] [(0, .d (.fn (.yield l) [] [])), (1, .d (.dptr [.str p1])), (2, .d (.dptr [cP.enc p2])), (4, .d (.ptr q1.2 0)), (20, .tup [.d (.agg [.int .i64 r5.1.1.Kind, .int .i64 r5.1.1.Unit, .str r5.1.1.Key, .bool r5.1.1.Has, .str r5.1.1.Text]), vB r5.1.2])] (SB.sc (j_reader_next_ok hr)) (by kernel_rfl) (by kernel_rfl) (by kernel_rfl) <| OWk.sg 38 r5.2 [] [0, 1, 2, 4, 5, 6] 6 [(0, .d (.fn (.yield l) [] [])), (1, .d (.dptr [.str p1])), (2, .d (.dptr [cP.enc p2])), (4, .d (.ptr q1.2 0)), (5, Z296 r5), (6, vB r5.1.2)] (by kernel_rfl) <| OWk.done (by kernel_rfl) <| OTk.done (by kernel_rfl) <| thenS_n <| SWC.seq hC <| SWC.seq hC <| SWC.regionY 5 hC (by kernel_rfl) (by kernel_rfl) <| OWk.sg 38 r5.2 [] [0, 1, 2, 4, 5, 25] 3 [(0, .d (.fn (.yield l) [] [])), (1, .d (.dptr [.str p1])), (2, .d (.dptr [cP.enc p2])), (4, .d (.ptr q1.2 0)), (5, Z296 r5), (25, vB (!r5.1.2))] (by kernel_rfl) ?_
        refine OWk.case (!r5.1.2) (fun b => (sp 38 [(0, .d (.fn (.yield l) [] [])), (1, .d (.dptr [.str p1])), (2, .d (.dptr [cP.enc p2])), (4, .d (.ptr q1.2 0)), (5, Z296 r5), (25, vB b)] r5.2)) (by kernel_rfl) (fun hc => ?_) (fun hc => ?_)
        · replace h := bif_t hc h
          refine OWk.sg 38 r5.2 [] [0, 1, 2, 4, 25, 26, 27] 2 [(0, .d (.fn (.yield l) [] [])), (1, .d (.dptr [.str p1])), (2, .d (.dptr [cP.enc p2])), (4, .d (.ptr q1.2 0)), (25, vB true), (26, .tup []), (27, .tup [])] (by kernel_rfl) <| OWk.done (by kernel_rfl) <| YK.skip (by kernel_rfl) rfl (by kernel_rfl) <| OWk.sg 38 r5.2 [] [0, 1, 2, 4, 25, 28] 0 [(0, .d (.fn (.yield l) [] [])), (1, .d (.dptr [.str p1])), (2, .d (.dptr [cP.enc p2])), (4, .d (.ptr q1.2 0)), (25, vB true), (28, .tup [])] (by kernel_rfl) <| OWk.sg 38 r5.2 [] [0, 1, 2, 4, 30] 2 [(0, .d (.fn (.yield l) [] [])), (1, .d (.dptr [.str p1])), (2, .d (.dptr [cP.enc p2])), (4, .d (.ptr q1.2 0)), (30, vB true)] (by kernel_rfl) <| OWk.done (by kernel_rfl) <| thenS_n <| SWC.condT (by kernel_rfl) <| SWC.of <| SW.ret <| thenS_r <| blockS_r ?_
          cases h
          refine thenS_r ?_
          exact ⟨_, rfl, .inr (⟨r5.2, rfl, rfl, ⟨.inr rfl, rfl⟩⟩)⟩
        · replace h := bif_f hc h
          refine OWk.sg 38 r5.2 [] [0, 1, 2, 4, 25, 26, 27] 2 [(0, .d (.fn (.yield l) [] [])), (1, .d (.dptr [.str p1])), (2, .d (.dptr [cP.enc p2])), (4, .d (.ptr q1.2 0)), (25, vB false), (26, .d (.fn (.yield l) [] [])), (27, Z297 r5)] (by kernel_rfl) <| OWk.done (by kernel_rfl) ?_
          obtain ⟨H6, hy, h⟩ := bind_inv h
          refine YK.call (d := some 28) (l := l) (y := (.agg [.int .i64 r5.1.1.Kind, .int .i64 r5.1.1.Unit, .str r5.1.1.Key, .bool r5.1.1.Has, .str r5.1.1.Text])) 38 [0, 1, 2, 4, 25, 28] [(0, .d (.fn (.yield l) [] [])), (1, .d (.dptr [.str p1])), (2, .d (.dptr [cP.enc p2])), (4, .d (.ptr q1.2 0)), (25, vB false), (28, vB true)] (by kernel_rfl) (by kernel_rfl) (hY _ _ _ hy) (by kernel_rfl) (by kernel_rfl) <| OWk.sg 38 H6 [] [0, 1, 2, 4, 30] 2 [(0, .d (.fn (.yield l) [] [])), (1, .d (.dptr [.str p1])), (2, .d (.dptr [cP.enc p2])), (4, .d (.ptr q1.2 0)), (30, vB false)] (by kernel_rfl) <| OWk.done (by kernel_rfl) <| thenS_n <| SWC.condF (by kernel_rfl) <| SWC.of <| SW.skip <| thenS_n <| SWC.of <| SW.regionT 7 (by kernel_rfl) (by kernel_rfl) <| OBk.sg 38 H6 [] [0, 1, 2, 4, 31, 34] 4 [(0, .d (.fn (.yield l) [] [])), (1, .d (.dptr [.str p1])), (2, .d (.dptr [cP.enc p2])), (4, .d (.ptr q1.2 0)), (31, .d (cP.enc p2)), (34, .d (.ptr q1.2 1))] (by kernel_rfl) (by kernel_rfl) ?_
          obtain ⟨x7, hx, h⟩ := bind_inv h
          refine OBk.on 38 H6 (d := some 35) (s := vI x7) [0, 1, 2, 4, 31, 35] [(0, .d (.fn (.yield l) [] [])), (1, .d (.dptr [.str p1])), (2, .d (.dptr [cP.enc p2])), (4, .d (.ptr q1.2 0)), (31, .d (cP.enc p2)), (35, vI x7)] (by kernel_rfl) (BAt.ldH (c := (cI .i64).cell) hx (by kernel_rfl)) (by kernel_rfl) ?_
          obtain ⟨i8, hp, h⟩ := bind_inv h
          refine OBk.on 38 H6 (d := some 36) (s := .d (.ptr i8 0)) [0, 1, 2, 4, 35, 36] [(0, .d (.fn (.yield l) [] [])), (1, .d (.dptr [.str p1])), (2, .d (.dptr [cP.enc p2])), (4, .d (.ptr q1.2 0)), (35, vI x7), (36, .d (.ptr i8 0))] (by kernel_rfl) (BAt.nilc (p := p2) hp (by kernel_rfl)) (by kernel_rfl) <| OBk.sg 38 H6 [] [0, 1, 2, 4, 35, 37] 1 [(0, .d (.fn (.yield l) [] [])), (1, .d (.dptr [.str p1])), (2, .d (.dptr [cP.enc p2])), (4, .d (.ptr q1.2 0)), (35, vI x7), (37, .d (.ptr i8 0))] (by kernel_rfl) (by kernel_rfl) <| OBk.done (by kernel_rfl) ?_
          obtain ⟨H9, hx, h⟩ := bind_inv h
          refine OWk.hst 38 H9 [0, 1, 2, 4] [(0, .d (.fn (.yield l) [] [])), (1, .d (.dptr [.str p1])), (2, .d (.dptr [cP.enc p2])), (4, .d (.ptr q1.2 0))] hx (by kernel_rfl) (by kernel_rfl) <| OWk.done (by kernel_rfl) <| blockS_n ?_
          cases h
          exact ⟨H9, rfl, by kernel_rfl⟩
      · replace h := pn_boom h
        cases h
    · replace h := bif_f hc h
      refine SWC.kp 38 y2 [] [] (by kernel_rfl) <| SWC.of <| SW.exit <| thenS_e ?_
      cases h
      refine thenS_e ?_
      exact ⟨_, rfl, .inl ⟨y2, rfl, rfl, rfl⟩⟩
  · rintro _ _ (⟨v11, rfl, rfl, rfl⟩ | ⟨r12, rfl, rfl, hE⟩)
    · replace h := sum_l h
      refine blockS_hit ?_
      cases h
      exact ⟨.inl rfl, rfl⟩
    · replace h := sum_r h
      refine blockS_r ?_
      cases h
      exact hE
def clNote : Cl Note := ((cI .i64).one.pair ((cI .i64).one.pair (cS.one.pair (cB.one.pair cS.one)))).iso (fun p => (⟨p.1, p.2.1, p.2.2.1, p.2.2.2.1, p.2.2.2.2⟩ : Note)) (fun x => (x.Kind, x.Unit, x.Key, x.Has, x.Text)) (fun _ => rfl) (fun _ => rfl)
def cNote : Cd Note := clNote.agg
def j_Decode_y1 (fuel : Nat) (q1 : (Hp × Nat)) (e4 : Note) (G5 : Hp) : Option Hp :=
  (hTake 5 cNote G5 q1.2 0).bind fun q6 =>
  chk (decide ((q6.1 ++ [e4]).length ≤ room)) <|
  (hGive 5 cNote q6.2 q1.2 0 (q6.1 ++ [e4])).bind fun H7 =>
  some H7
def j_Decode (fuel : Nat) (p0 : (List UInt8)) : Option ((List Note) × Int × Bool × Int) :=
  bif (decide ((p0.length : Int) > 65536)) then
    some (([] : List Note), 0, false, 3)
  else
    (hNew [] (.cells [.own 5 (List.map encNote ([] : List Note))])).bind fun q1 =>
    (hNew q1.1 (.cells [.d (.int .i64 0), .d (.int .u64 0), .d (.bool false), .d (.int .i64 0)])).bind fun q2 =>
    (j_notes fuel p0 q2.2 q2.1).bind fun o =>
    Pn.el (fun r3 =>
      (j_notes_1 fuel (j_Decode_y1 fuel q1) p0 (some q2.2) r3.2).bind fun H8 =>
      (hOutL 5 cNote H8 q1.2).bind fun q9 =>
      (hGet (cI .i64).cell q9.2 q2.2 0).bind fun x10 =>
      (hGet cB.cell q9.2 q2.2 2).bind fun x11 =>
      (hGet (cI .i64).cell q9.2 q2.2 3).bind fun x12 =>
      some (q9.1, x10, x11, x12))
    (fun bt bH => none) o
def Z298 (x0 : ((List Note) × Hp)) : SV := .own 5 (List.map encNote x0.1)
def Z299 (x0 : Note) : SV := .own 5 (List.map encNote [x0])
def Z300 (x0 : ((List Note) × Hp)) (x1 : Note) : SV := .own 5 (List.map encNote (x0.1 ++ [x1]))
def Z301 (x0 : ((List Note) × Hp)) : SV := .box [.d (.list 5 (List.map encNote x0.1))]
def Z302 (x0 : (List UInt8)) (x1 : (Hp × Nat)) : SV := .d (.fn (.func 72) [] [.dptr [.str x0], .dptr [.ptr x1.2 0]])
def Z303 (x0 : ((List Note) × Hp)) : SV := .d (.list 5 (List.map encNote x0.1))
theorem j_Decode_ok {fuel : Nat} {p0 : (List UInt8)} {r : (List Note) × Int × Bool × Int} (h : j_Decode fuel p0 = some r) : PC Try.prog 23 [vS p0] (.tup [.d (.list 5 (List.map encNote r.1)), vI r.2.1, vB r.2.2.1, vI r.2.2.2]) := by
  refine PC.of_localSWM0 Try.func23 rfl (by simp [noPtrSV, noPtr, noPtrs, vI, vB, vS]) (by simp [noPtrSV, noPtr, noPtrs, vI, vB, vS, noPtrs_map (f := encNote) encNote_np]) ?_
  unfold j_Decode at h
  refine SWM0.kp 25 [] [0] [(0, vS p0)] (by kernel_rfl) <| SWM0.seq1 <| SW.regionK <| OWk.G 4 [(0, vS p0), (2, .box [.d (.nilS)])] <| OWk.E <| SWM0.seq1 <| SW.S <| OWk.G 1 [(0, vS p0), (2, .box [.d (.nilS)]), (8, vS p0)] <| OWk.G 1 [(0, vS p0), (2, .box [.d (.nilS)]), (9, vI (p0.length : Int))] <| OWk.G 1 [(0, vS p0), (2, .box [.d (.nilS)]), (10, Z236 p0)] <| OWk.E ?_
  refine SW.B (decide ((p0.length : Int) > 65536)) (fun hc => ?_) (fun hc => ?_)
  · replace h := bif_t hc h
    refine SW.R 1 [(2, .box [.d (.nilS)]), (3, vI 0), (4, vB false), (5, vI 3)] <| SW.nilC 2 0 5 25 [] [2, 3, 4, 5] [(2, Z237), (3, vI 0), (4, vB false), (5, vI 3)] (by kernel_rfl) <| SW.ret <| thenS_r ?_
    cases h
    exact EndL.ret [] (by kernel_rfl)
  · replace h := bif_f hc h
    refine SW.skip <| thenS_n <| SWM0.seq1 <| SW.regionK <| OWk.G 1 [(0, vS p0), (2, .box [.d (.nilS)]), (6, Z238)] <| OWk.E ?_
    obtain ⟨q1, hq, h⟩ := bind_inv h
    refine SWM0.rebox hq 2 25 [(0, 5)] [0, 2, 6] [(0, vS p0), (2, .d (.ptr q1.2 0)), (6, Z238)] (by kernel_rfl) (by cases hq; kernel_rfl) ?_
    obtain ⟨q2, hq, h⟩ := bind_inv h
    refine SWM0.rebox hq 6 25 [] [0, 2, 6] [(0, vS p0), (2, .d (.ptr q1.2 0)), (6, .d (.ptr q2.2 0))] (by kernel_rfl) (by cases hq; kernel_rfl) <| SWM0.seq2 <| SWM0.seq1 <| SW.regionOT <| OTk.M 1 <| OWk.G 1 [(2, .d (.ptr q1.2 0)), (6, .d (.ptr q2.2 0)), (11, vS p0)] <| OWk.D ?_
    obtain ⟨o, hr, h⟩ := bind_inv h
    rcases o with r3 | ⟨bt, bH⟩
    · replace h := pn_ok h
      refine OTk.M 2 <| OWk.CH (some 12) [(2, .d (.ptr q1.2 0)), (6, .d (.ptr q2.2 0)), (12, Z302 p0 q2)] (SB.sc (j_notes_ok hr)) <| OWk.D <| OTk.D <| thenS_n <| SWM0.block ?_
      obtain ⟨H8, hit, h⟩ := bind_inv h
      refine SWM0.rangeL (f := 72) (caps := [.dptr [.str p0], .dptr [.ptr q2.2 0]]) (H' := H8) [(2, .ptr q1.2 0)] (by kernel_rfl) (by kernel_rfl) (by kernel_rfl) (by kernel_rfl) (fun l R hst hpe hps has hbd hsz => ?_) ?_
      · refine j_notes_1_ok CRec.fr (fun e4 G5 H9 h => ?_) hit
        unfold j_Decode_y1 at h
        refine YB.of_round1 (n := 25) hst hpe hps (hsz.trans (spL_len _ _ _)) [(2, .d (.ptr q1.2 0)), (13, .d (.agg [.int .i64 e4.Kind, .int .i64 e4.Unit, .str e4.Key, .bool e4.Has, .str e4.Text]))] (DsOk_mem ⟨.inr ⟨by decide, _, rfl, .head _⟩, ⟨.inl ⟨rfl, rfl⟩, trivial⟩⟩) ?_
        rw [has, hbd]
        refine SWR.region (by kernel_rfl) <| OWk.G 2 [(2, .d (.ptr q1.2 0)), (7, Z30 e4)] <| OWk.D <| SWR.block <| SWR.region (by kernel_rfl) ?_
        obtain ⟨q6, hq, h⟩ := bind_inv h
        refine OWk.tkH (c := cNote) (n' := 5) (d := 14) (xs := q6.1) 25 [2, 7, 14] [(2, .d (.ptr q1.2 0)), (7, Z30 e4), (14, .own 5 (List.map encNote q6.1))] hq (by kernel_rfl) (by kernel_rfl) <| OWk.sg 25 q6.2 [14] [2, 14, 16] 2 [(2, .d (.ptr q1.2 0)), (14, Z298 q6), (16, Z299 e4)] (by kernel_rfl) ?_
        obtain ⟨hk, h⟩ := chk_inv h
        refine OWk.app 25 q6.2 (s := 14) (d := 17) (w := 5) [2, 17] (zs := List.map encNote (q6.1 ++ [e4])) [(2, .d (.ptr q1.2 0)), (17, Z300 q6 e4)] (ys := (List.map encNote [e4])) (by kernel_rfl) (map_append') (room_map hk) (by kernel_rfl) ?_
        obtain ⟨H7, hx, h⟩ := bind_inv h
        refine OWk.gvH (c := cNote) (n' := 5) (s := 17) (xs := (q6.1 ++ [e4])) 25 [] [] hx (by kernel_rfl) (by kernel_rfl) <| OWk.D ?_
        cases h
        exact rfl
      refine blockS_n <| thenS_n ?_
      intro ds
      obtain ⟨q9, hq, h⟩ := bind_inv h
      refine SWd.outL hq 2 25 [2, 6, 12] [(2, Z301 q9), (6, .d (.ptr q2.2 0)), (12, Z302 p0 q2)] (by kernel_rfl) (by kernel_rfl) <| SWd.seq ?_
      obtain ⟨x10, hx10, h⟩ := bind_inv h
      obtain ⟨x11, hx11, h⟩ := bind_inv h
      obtain ⟨x12, hx12, h⟩ := bind_inv h
      refine SWd.keep 25 q9.2 [2, 6] [(2, Z301 q9), (6, .d (.ptr q2.2 0))] (by kernel_rfl) ?_
      refine SWd.regXP 25 q9.2 [(2, Z301 q9), (3, vI x10), (4, vB x11), (5, vI x12)] [1, 3, 5] 8 42 (by kernel_rfl) (by kernel_rfl) (by kernel_rfl) (fun X hX => ?_) ?_
      · have c2047 : X 0 2047 (sp 25 [(2, Z301 q9), (3, vI x10), (4, vB x11), (5, vI x12)] q9.2) := by subst hX; exact OX.fin (by kernel_rfl)
        have c1023 : X 1 1023 (sp 25 [(2, Z301 q9), (3, vI x10), (4, vB x11), (24, vI x12)] q9.2) := by
          subst hX
          refine OX.step (i0 := 10) (is := []) (by kernel_rfl) (by kernel_rfl) ⟨?_, trivial⟩
          · refine OWk.G 1 [(2, Z301 q9), (3, vI x10), (4, vB x11), (5, vI x12)] <| OWk.D ?_
            exact c2047
        have c511 : X 2 511 (sp 25 [(2, Z301 q9), (3, vI x10), (22, vB x11), (24, vI x12)] q9.2) := by
          subst hX
          refine OX.step (i0 := 9) (is := []) (by kernel_rfl) (by kernel_rfl) ⟨?_, trivial⟩
          · refine OWk.G 1 [(2, Z301 q9), (3, vI x10), (4, vB x11), (24, vI x12)] <| OWk.D ?_
            exact c1023
        have c255 : X 3 255 (sp 25 [(2, Z301 q9), (20, vI x10), (22, vB x11), (24, vI x12)] q9.2) := by
          subst hX
          refine OX.step (i0 := 8) (is := []) (by kernel_rfl) (by kernel_rfl) ⟨?_, trivial⟩
          · refine OWk.G 1 [(2, Z301 q9), (3, vI x10), (22, vB x11), (24, vI x12)] <| OWk.D ?_
            exact c511
        have c127 : X 4 127 (sp 25 [(2, Z301 q9), (18, Z303 q9), (20, vI x10), (22, vB x11), (24, vI x12)] q9.2) := by
          subst hX
          refine OX.step (i0 := 7) (is := []) (by kernel_rfl) (by kernel_rfl) ⟨?_, trivial⟩
          · refine OWk.G 1 [(2, Z301 q9), (20, vI x10), (22, vB x11), (24, vI x12)] <| OWk.D ?_
            exact c255
        have c959 : X 2 959 (sp 25 [(2, Z301 q9), (3, vI x10), (4, vB x11), (23, .d (.ptr q2.2 3))] q9.2) := by
          subst hX
          refine OX.step (i0 := 6) (is := []) (by kernel_rfl) (by kernel_rfl) ⟨?_, trivial⟩
          · refine OWk.O (d := some 24) (s := vI x12) [(2, Z301 q9), (3, vI x10), (4, vB x11), (24, vI x12)] (BAt.ldH (c := (cI .i64).cell) hx12 (by kernel_rfl)) <| OWk.D ?_
            exact c1023
        have c447 : X 3 447 (sp 25 [(2, Z301 q9), (3, vI x10), (22, vB x11), (23, .d (.ptr q2.2 3))] q9.2) := by
          subst hX
          refine OX.step (i0 := 6) (is := [9]) (by kernel_rfl) (by kernel_rfl) ⟨?_, ?_, trivial⟩
          · refine OWk.O (d := some 24) (s := vI x12) [(2, Z301 q9), (3, vI x10), (22, vB x11), (24, vI x12)] (BAt.ldH (c := (cI .i64).cell) hx12 (by kernel_rfl)) <| OWk.D ?_
            exact c511
          · refine OWk.G 1 [(2, Z301 q9), (3, vI x10), (4, vB x11), (23, .d (.ptr q2.2 3))] <| OWk.D ?_
            exact c959
        have c191 : X 4 191 (sp 25 [(2, Z301 q9), (20, vI x10), (22, vB x11), (23, .d (.ptr q2.2 3))] q9.2) := by
          subst hX
          refine OX.step (i0 := 6) (is := [8]) (by kernel_rfl) (by kernel_rfl) ⟨?_, ?_, trivial⟩
          · refine OWk.O (d := some 24) (s := vI x12) [(2, Z301 q9), (20, vI x10), (22, vB x11), (24, vI x12)] (BAt.ldH (c := (cI .i64).cell) hx12 (by kernel_rfl)) <| OWk.D ?_
            exact c255
          · refine OWk.G 1 [(2, Z301 q9), (3, vI x10), (22, vB x11), (23, .d (.ptr q2.2 3))] <| OWk.D ?_
            exact c447
        have c63 : X 5 63 (sp 25 [(2, Z301 q9), (18, Z303 q9), (20, vI x10), (22, vB x11), (23, .d (.ptr q2.2 3))] q9.2) := by
          subst hX
          refine OX.step (i0 := 6) (is := [7]) (by kernel_rfl) (by kernel_rfl) ⟨?_, ?_, trivial⟩
          · refine OWk.O (d := some 24) (s := vI x12) [(2, Z301 q9), (18, Z303 q9), (20, vI x10), (22, vB x11), (24, vI x12)] (BAt.ldH (c := (cI .i64).cell) hx12 (by kernel_rfl)) <| OWk.D ?_
            exact c127
          · refine OWk.G 1 [(2, Z301 q9), (20, vI x10), (22, vB x11), (23, .d (.ptr q2.2 3))] <| OWk.D ?_
            exact c191
        have c495 : X 3 495 (sp 25 [(2, Z301 q9), (3, vI x10), (21, .d (.ptr q2.2 2)), (24, vI x12)] q9.2) := by
          subst hX
          refine OX.step (i0 := 4) (is := []) (by kernel_rfl) (by kernel_rfl) ⟨?_, trivial⟩
          · refine OWk.O (d := some 22) (s := vB x11) [(2, Z301 q9), (3, vI x10), (22, vB x11), (24, vI x12)] (BAt.ldH (c := cB.cell) hx11 (by kernel_rfl)) <| OWk.D ?_
            exact c511
        have c239 : X 4 239 (sp 25 [(2, Z301 q9), (20, vI x10), (21, .d (.ptr q2.2 2)), (24, vI x12)] q9.2) := by
          subst hX
          refine OX.step (i0 := 4) (is := [8]) (by kernel_rfl) (by kernel_rfl) ⟨?_, ?_, trivial⟩
          · refine OWk.O (d := some 22) (s := vB x11) [(2, Z301 q9), (20, vI x10), (22, vB x11), (24, vI x12)] (BAt.ldH (c := cB.cell) hx11 (by kernel_rfl)) <| OWk.D ?_
            exact c255
          · refine OWk.G 1 [(2, Z301 q9), (3, vI x10), (21, .d (.ptr q2.2 2)), (24, vI x12)] <| OWk.D ?_
            exact c495
        have c111 : X 5 111 (sp 25 [(2, Z301 q9), (18, Z303 q9), (20, vI x10), (21, .d (.ptr q2.2 2)), (24, vI x12)] q9.2) := by
          subst hX
          refine OX.step (i0 := 4) (is := [7]) (by kernel_rfl) (by kernel_rfl) ⟨?_, ?_, trivial⟩
          · refine OWk.O (d := some 22) (s := vB x11) [(2, Z301 q9), (18, Z303 q9), (20, vI x10), (22, vB x11), (24, vI x12)] (BAt.ldH (c := cB.cell) hx11 (by kernel_rfl)) <| OWk.D ?_
            exact c127
          · refine OWk.G 1 [(2, Z301 q9), (20, vI x10), (21, .d (.ptr q2.2 2)), (24, vI x12)] <| OWk.D ?_
            exact c239
        have c431 : X 4 431 (sp 25 [(2, Z301 q9), (3, vI x10), (21, .d (.ptr q2.2 2)), (23, .d (.ptr q2.2 3))] q9.2) := by
          subst hX
          refine OX.step (i0 := 4) (is := [6]) (by kernel_rfl) (by kernel_rfl) ⟨?_, ?_, trivial⟩
          · refine OWk.O (d := some 22) (s := vB x11) [(2, Z301 q9), (3, vI x10), (22, vB x11), (23, .d (.ptr q2.2 3))] (BAt.ldH (c := cB.cell) hx11 (by kernel_rfl)) <| OWk.D ?_
            exact c447
          · refine OWk.O (d := some 24) (s := vI x12) [(2, Z301 q9), (3, vI x10), (21, .d (.ptr q2.2 2)), (24, vI x12)] (BAt.ldH (c := (cI .i64).cell) hx12 (by kernel_rfl)) <| OWk.D ?_
            exact c495
        have c175 : X 5 175 (sp 25 [(2, Z301 q9), (20, vI x10), (21, .d (.ptr q2.2 2)), (23, .d (.ptr q2.2 3))] q9.2) := by
          subst hX
          refine OX.step (i0 := 4) (is := [6, 8]) (by kernel_rfl) (by kernel_rfl) ⟨?_, ?_, ?_, trivial⟩
          · refine OWk.O (d := some 22) (s := vB x11) [(2, Z301 q9), (20, vI x10), (22, vB x11), (23, .d (.ptr q2.2 3))] (BAt.ldH (c := cB.cell) hx11 (by kernel_rfl)) <| OWk.D ?_
            exact c191
          · refine OWk.O (d := some 24) (s := vI x12) [(2, Z301 q9), (20, vI x10), (21, .d (.ptr q2.2 2)), (24, vI x12)] (BAt.ldH (c := (cI .i64).cell) hx12 (by kernel_rfl)) <| OWk.D ?_
            exact c239
          · refine OWk.G 1 [(2, Z301 q9), (3, vI x10), (21, .d (.ptr q2.2 2)), (23, .d (.ptr q2.2 3))] <| OWk.D ?_
            exact c431
        have c47 : X 6 47 (sp 25 [(2, Z301 q9), (18, Z303 q9), (20, vI x10), (21, .d (.ptr q2.2 2)), (23, .d (.ptr q2.2 3))] q9.2) := by
          subst hX
          refine OX.step (i0 := 4) (is := [6, 7]) (by kernel_rfl) (by kernel_rfl) ⟨?_, ?_, ?_, trivial⟩
          · refine OWk.O (d := some 22) (s := vB x11) [(2, Z301 q9), (18, Z303 q9), (20, vI x10), (22, vB x11), (23, .d (.ptr q2.2 3))] (BAt.ldH (c := cB.cell) hx11 (by kernel_rfl)) <| OWk.D ?_
            exact c63
          · refine OWk.O (d := some 24) (s := vI x12) [(2, Z301 q9), (18, Z303 q9), (20, vI x10), (21, .d (.ptr q2.2 2)), (24, vI x12)] (BAt.ldH (c := (cI .i64).cell) hx12 (by kernel_rfl)) <| OWk.D ?_
            exact c111
          · refine OWk.G 1 [(2, Z301 q9), (20, vI x10), (21, .d (.ptr q2.2 2)), (23, .d (.ptr q2.2 3))] <| OWk.D ?_
            exact c175
        have c251 : X 4 251 (sp 25 [(2, Z301 q9), (19, .d (.ptr q2.2 0)), (22, vB x11), (24, vI x12)] q9.2) := by
          subst hX
          refine OX.step (i0 := 2) (is := []) (by kernel_rfl) (by kernel_rfl) ⟨?_, trivial⟩
          · refine OWk.O (d := some 20) (s := vI x10) [(2, Z301 q9), (20, vI x10), (22, vB x11), (24, vI x12)] (BAt.ldH (c := (cI .i64).cell) hx10 (by kernel_rfl)) <| OWk.D ?_
            exact c255
        have c123 : X 5 123 (sp 25 [(2, Z301 q9), (18, Z303 q9), (19, .d (.ptr q2.2 0)), (22, vB x11), (24, vI x12)] q9.2) := by
          subst hX
          refine OX.step (i0 := 2) (is := [7]) (by kernel_rfl) (by kernel_rfl) ⟨?_, ?_, trivial⟩
          · refine OWk.O (d := some 20) (s := vI x10) [(2, Z301 q9), (18, Z303 q9), (20, vI x10), (22, vB x11), (24, vI x12)] (BAt.ldH (c := (cI .i64).cell) hx10 (by kernel_rfl)) <| OWk.D ?_
            exact c127
          · refine OWk.G 1 [(2, Z301 q9), (19, .d (.ptr q2.2 0)), (22, vB x11), (24, vI x12)] <| OWk.D ?_
            exact c251
        have c187 : X 5 187 (sp 25 [(2, Z301 q9), (19, .d (.ptr q2.2 0)), (22, vB x11), (23, .d (.ptr q2.2 3))] q9.2) := by
          subst hX
          refine OX.step (i0 := 2) (is := [6]) (by kernel_rfl) (by kernel_rfl) ⟨?_, ?_, trivial⟩
          · refine OWk.O (d := some 20) (s := vI x10) [(2, Z301 q9), (20, vI x10), (22, vB x11), (23, .d (.ptr q2.2 3))] (BAt.ldH (c := (cI .i64).cell) hx10 (by kernel_rfl)) <| OWk.D ?_
            exact c191
          · refine OWk.O (d := some 24) (s := vI x12) [(2, Z301 q9), (19, .d (.ptr q2.2 0)), (22, vB x11), (24, vI x12)] (BAt.ldH (c := (cI .i64).cell) hx12 (by kernel_rfl)) <| OWk.D ?_
            exact c251
        have c59 : X 6 59 (sp 25 [(2, Z301 q9), (18, Z303 q9), (19, .d (.ptr q2.2 0)), (22, vB x11), (23, .d (.ptr q2.2 3))] q9.2) := by
          subst hX
          refine OX.step (i0 := 2) (is := [6, 7]) (by kernel_rfl) (by kernel_rfl) ⟨?_, ?_, ?_, trivial⟩
          · refine OWk.O (d := some 20) (s := vI x10) [(2, Z301 q9), (18, Z303 q9), (20, vI x10), (22, vB x11), (23, .d (.ptr q2.2 3))] (BAt.ldH (c := (cI .i64).cell) hx10 (by kernel_rfl)) <| OWk.D ?_
            exact c63
          · refine OWk.O (d := some 24) (s := vI x12) [(2, Z301 q9), (18, Z303 q9), (19, .d (.ptr q2.2 0)), (22, vB x11), (24, vI x12)] (BAt.ldH (c := (cI .i64).cell) hx12 (by kernel_rfl)) <| OWk.D ?_
            exact c123
          · refine OWk.G 1 [(2, Z301 q9), (19, .d (.ptr q2.2 0)), (22, vB x11), (23, .d (.ptr q2.2 3))] <| OWk.D ?_
            exact c187
        have c235 : X 5 235 (sp 25 [(2, Z301 q9), (19, .d (.ptr q2.2 0)), (21, .d (.ptr q2.2 2)), (24, vI x12)] q9.2) := by
          subst hX
          refine OX.step (i0 := 2) (is := [4]) (by kernel_rfl) (by kernel_rfl) ⟨?_, ?_, trivial⟩
          · refine OWk.O (d := some 20) (s := vI x10) [(2, Z301 q9), (20, vI x10), (21, .d (.ptr q2.2 2)), (24, vI x12)] (BAt.ldH (c := (cI .i64).cell) hx10 (by kernel_rfl)) <| OWk.D ?_
            exact c239
          · refine OWk.O (d := some 22) (s := vB x11) [(2, Z301 q9), (19, .d (.ptr q2.2 0)), (22, vB x11), (24, vI x12)] (BAt.ldH (c := cB.cell) hx11 (by kernel_rfl)) <| OWk.D ?_
            exact c251
        have c107 : X 6 107 (sp 25 [(2, Z301 q9), (18, Z303 q9), (19, .d (.ptr q2.2 0)), (21, .d (.ptr q2.2 2)), (24, vI x12)] q9.2) := by
          subst hX
          refine OX.step (i0 := 2) (is := [4, 7]) (by kernel_rfl) (by kernel_rfl) ⟨?_, ?_, ?_, trivial⟩
          · refine OWk.O (d := some 20) (s := vI x10) [(2, Z301 q9), (18, Z303 q9), (20, vI x10), (21, .d (.ptr q2.2 2)), (24, vI x12)] (BAt.ldH (c := (cI .i64).cell) hx10 (by kernel_rfl)) <| OWk.D ?_
            exact c111
          · refine OWk.O (d := some 22) (s := vB x11) [(2, Z301 q9), (18, Z303 q9), (19, .d (.ptr q2.2 0)), (22, vB x11), (24, vI x12)] (BAt.ldH (c := cB.cell) hx11 (by kernel_rfl)) <| OWk.D ?_
            exact c123
          · refine OWk.G 1 [(2, Z301 q9), (19, .d (.ptr q2.2 0)), (21, .d (.ptr q2.2 2)), (24, vI x12)] <| OWk.D ?_
            exact c235
        have c171 : X 6 171 (sp 25 [(2, Z301 q9), (19, .d (.ptr q2.2 0)), (21, .d (.ptr q2.2 2)), (23, .d (.ptr q2.2 3))] q9.2) := by
          subst hX
          refine OX.step (i0 := 2) (is := [4, 6]) (by kernel_rfl) (by kernel_rfl) ⟨?_, ?_, ?_, trivial⟩
          · refine OWk.O (d := some 20) (s := vI x10) [(2, Z301 q9), (20, vI x10), (21, .d (.ptr q2.2 2)), (23, .d (.ptr q2.2 3))] (BAt.ldH (c := (cI .i64).cell) hx10 (by kernel_rfl)) <| OWk.D ?_
            exact c175
          · refine OWk.O (d := some 22) (s := vB x11) [(2, Z301 q9), (19, .d (.ptr q2.2 0)), (22, vB x11), (23, .d (.ptr q2.2 3))] (BAt.ldH (c := cB.cell) hx11 (by kernel_rfl)) <| OWk.D ?_
            exact c187
          · refine OWk.O (d := some 24) (s := vI x12) [(2, Z301 q9), (19, .d (.ptr q2.2 0)), (21, .d (.ptr q2.2 2)), (24, vI x12)] (BAt.ldH (c := (cI .i64).cell) hx12 (by kernel_rfl)) <| OWk.D ?_
            exact c235
        have c43 : X 7 43 (sp 25 [(2, Z301 q9), (18, Z303 q9), (19, .d (.ptr q2.2 0)), (21, .d (.ptr q2.2 2)), (23, .d (.ptr q2.2 3))] q9.2) := by
          subst hX
          refine OX.step (i0 := 2) (is := [4, 6, 7]) (by kernel_rfl) (by kernel_rfl) ⟨?_, ?_, ?_, ?_, trivial⟩
          · refine OWk.O (d := some 20) (s := vI x10) [(2, Z301 q9), (18, Z303 q9), (20, vI x10), (21, .d (.ptr q2.2 2)), (23, .d (.ptr q2.2 3))] (BAt.ldH (c := (cI .i64).cell) hx10 (by kernel_rfl)) <| OWk.D ?_
            exact c47
          · refine OWk.O (d := some 22) (s := vB x11) [(2, Z301 q9), (18, Z303 q9), (19, .d (.ptr q2.2 0)), (22, vB x11), (23, .d (.ptr q2.2 3))] (BAt.ldH (c := cB.cell) hx11 (by kernel_rfl)) <| OWk.D ?_
            exact c59
          · refine OWk.O (d := some 24) (s := vI x12) [(2, Z301 q9), (18, Z303 q9), (19, .d (.ptr q2.2 0)), (21, .d (.ptr q2.2 2)), (24, vI x12)] (BAt.ldH (c := (cI .i64).cell) hx12 (by kernel_rfl)) <| OWk.D ?_
            exact c107
          · refine OWk.G 1 [(2, Z301 q9), (19, .d (.ptr q2.2 0)), (21, .d (.ptr q2.2 2)), (23, .d (.ptr q2.2 3))] <| OWk.D ?_
            exact c171
        have c126 : X 5 126 (sp 25 [(2, Z301 q9), (20, vI x10), (22, vB x11), (24, vI x12)] q9.2) := by
          subst hX
          refine OX.step (i0 := 0) (is := []) (by kernel_rfl) (by kernel_rfl) ⟨?_, trivial⟩
          · refine OWk.G 1 [(2, Z301 q9), (18, Z303 q9), (20, vI x10), (22, vB x11), (24, vI x12)] <| OWk.D ?_
            exact c127
        have c62 : X 6 62 (sp 25 [(2, Z301 q9), (20, vI x10), (22, vB x11), (23, .d (.ptr q2.2 3))] q9.2) := by
          subst hX
          refine OX.step (i0 := 0) (is := [6]) (by kernel_rfl) (by kernel_rfl) ⟨?_, ?_, trivial⟩
          · refine OWk.G 1 [(2, Z301 q9), (18, Z303 q9), (20, vI x10), (22, vB x11), (23, .d (.ptr q2.2 3))] <| OWk.D ?_
            exact c63
          · refine OWk.O (d := some 24) (s := vI x12) [(2, Z301 q9), (20, vI x10), (22, vB x11), (24, vI x12)] (BAt.ldH (c := (cI .i64).cell) hx12 (by kernel_rfl)) <| OWk.D ?_
            exact c126
        have c110 : X 6 110 (sp 25 [(2, Z301 q9), (20, vI x10), (21, .d (.ptr q2.2 2)), (24, vI x12)] q9.2) := by
          subst hX
          refine OX.step (i0 := 0) (is := [4]) (by kernel_rfl) (by kernel_rfl) ⟨?_, ?_, trivial⟩
          · refine OWk.G 1 [(2, Z301 q9), (18, Z303 q9), (20, vI x10), (21, .d (.ptr q2.2 2)), (24, vI x12)] <| OWk.D ?_
            exact c111
          · refine OWk.O (d := some 22) (s := vB x11) [(2, Z301 q9), (20, vI x10), (22, vB x11), (24, vI x12)] (BAt.ldH (c := cB.cell) hx11 (by kernel_rfl)) <| OWk.D ?_
            exact c126
        have c46 : X 7 46 (sp 25 [(2, Z301 q9), (20, vI x10), (21, .d (.ptr q2.2 2)), (23, .d (.ptr q2.2 3))] q9.2) := by
          subst hX
          refine OX.step (i0 := 0) (is := [4, 6]) (by kernel_rfl) (by kernel_rfl) ⟨?_, ?_, ?_, trivial⟩
          · refine OWk.G 1 [(2, Z301 q9), (18, Z303 q9), (20, vI x10), (21, .d (.ptr q2.2 2)), (23, .d (.ptr q2.2 3))] <| OWk.D ?_
            exact c47
          · refine OWk.O (d := some 22) (s := vB x11) [(2, Z301 q9), (20, vI x10), (22, vB x11), (23, .d (.ptr q2.2 3))] (BAt.ldH (c := cB.cell) hx11 (by kernel_rfl)) <| OWk.D ?_
            exact c62
          · refine OWk.O (d := some 24) (s := vI x12) [(2, Z301 q9), (20, vI x10), (21, .d (.ptr q2.2 2)), (24, vI x12)] (BAt.ldH (c := (cI .i64).cell) hx12 (by kernel_rfl)) <| OWk.D ?_
            exact c110
        have c122 : X 6 122 (sp 25 [(2, Z301 q9), (19, .d (.ptr q2.2 0)), (22, vB x11), (24, vI x12)] q9.2) := by
          subst hX
          refine OX.step (i0 := 0) (is := [2]) (by kernel_rfl) (by kernel_rfl) ⟨?_, ?_, trivial⟩
          · refine OWk.G 1 [(2, Z301 q9), (18, Z303 q9), (19, .d (.ptr q2.2 0)), (22, vB x11), (24, vI x12)] <| OWk.D ?_
            exact c123
          · refine OWk.O (d := some 20) (s := vI x10) [(2, Z301 q9), (20, vI x10), (22, vB x11), (24, vI x12)] (BAt.ldH (c := (cI .i64).cell) hx10 (by kernel_rfl)) <| OWk.D ?_
            exact c126
        have c58 : X 7 58 (sp 25 [(2, Z301 q9), (19, .d (.ptr q2.2 0)), (22, vB x11), (23, .d (.ptr q2.2 3))] q9.2) := by
          subst hX
          refine OX.step (i0 := 0) (is := [2, 6]) (by kernel_rfl) (by kernel_rfl) ⟨?_, ?_, ?_, trivial⟩
          · refine OWk.G 1 [(2, Z301 q9), (18, Z303 q9), (19, .d (.ptr q2.2 0)), (22, vB x11), (23, .d (.ptr q2.2 3))] <| OWk.D ?_
            exact c59
          · refine OWk.O (d := some 20) (s := vI x10) [(2, Z301 q9), (20, vI x10), (22, vB x11), (23, .d (.ptr q2.2 3))] (BAt.ldH (c := (cI .i64).cell) hx10 (by kernel_rfl)) <| OWk.D ?_
            exact c62
          · refine OWk.O (d := some 24) (s := vI x12) [(2, Z301 q9), (19, .d (.ptr q2.2 0)), (22, vB x11), (24, vI x12)] (BAt.ldH (c := (cI .i64).cell) hx12 (by kernel_rfl)) <| OWk.D ?_
            exact c122
        have c106 : X 7 106 (sp 25 [(2, Z301 q9), (19, .d (.ptr q2.2 0)), (21, .d (.ptr q2.2 2)), (24, vI x12)] q9.2) := by
          subst hX
          refine OX.step (i0 := 0) (is := [2, 4]) (by kernel_rfl) (by kernel_rfl) ⟨?_, ?_, ?_, trivial⟩
          · refine OWk.G 1 [(2, Z301 q9), (18, Z303 q9), (19, .d (.ptr q2.2 0)), (21, .d (.ptr q2.2 2)), (24, vI x12)] <| OWk.D ?_
            exact c107
          · refine OWk.O (d := some 20) (s := vI x10) [(2, Z301 q9), (20, vI x10), (21, .d (.ptr q2.2 2)), (24, vI x12)] (BAt.ldH (c := (cI .i64).cell) hx10 (by kernel_rfl)) <| OWk.D ?_
            exact c110
          · refine OWk.O (d := some 22) (s := vB x11) [(2, Z301 q9), (19, .d (.ptr q2.2 0)), (22, vB x11), (24, vI x12)] (BAt.ldH (c := cB.cell) hx11 (by kernel_rfl)) <| OWk.D ?_
            exact c122
        have c42 : X 8 42 (sp 25 [(2, Z301 q9), (19, .d (.ptr q2.2 0)), (21, .d (.ptr q2.2 2)), (23, .d (.ptr q2.2 3))] q9.2) := by
          subst hX
          refine OX.step (i0 := 0) (is := [2, 4, 6]) (by kernel_rfl) (by kernel_rfl) ⟨?_, ?_, ?_, ?_, trivial⟩
          · refine OWk.G 1 [(2, Z301 q9), (18, Z303 q9), (19, .d (.ptr q2.2 0)), (21, .d (.ptr q2.2 2)), (23, .d (.ptr q2.2 3))] <| OWk.D ?_
            exact c43
          · refine OWk.O (d := some 20) (s := vI x10) [(2, Z301 q9), (20, vI x10), (21, .d (.ptr q2.2 2)), (23, .d (.ptr q2.2 3))] (BAt.ldH (c := (cI .i64).cell) hx10 (by kernel_rfl)) <| OWk.D ?_
            exact c46
          · refine OWk.O (d := some 22) (s := vB x11) [(2, Z301 q9), (19, .d (.ptr q2.2 0)), (22, vB x11), (23, .d (.ptr q2.2 3))] (BAt.ldH (c := cB.cell) hx11 (by kernel_rfl)) <| OWk.D ?_
            exact c58
          · refine OWk.O (d := some 24) (s := vI x12) [(2, Z301 q9), (19, .d (.ptr q2.2 0)), (21, .d (.ptr q2.2 2)), (24, vI x12)] (BAt.ldH (c := (cI .i64).cell) hx12 (by kernel_rfl)) <| OWk.D ?_
            exact c106
        refine OBk.G 1 [(2, Z301 q9), (6, .d (.ptr q2.2 0)), (19, .d (.ptr q2.2 0))] <| OBk.G 1 [(2, Z301 q9), (6, .d (.ptr q2.2 0)), (19, .d (.ptr q2.2 0)), (21, .d (.ptr q2.2 2))] <| OBk.G 1 [(2, Z301 q9), (19, .d (.ptr q2.2 0)), (21, .d (.ptr q2.2 2)), (23, .d (.ptr q2.2 3))] <| OBk.done (by kernel_rfl) ?_
        exact c42
      refine thenS_n <| SWd.ret ?_
      cases h
      exact EndL.ret [] (by kernel_rfl)
    · replace h := pn_boom h
      cases h
def r_eight_l1 (fuel : Nat) (p0 : Int) (y1 : (List Int) × Int) : Option (((List Int) × Int) ⊕ ((List Int))) :=
  bif (decide (y1.2 ≥ 0)) then
    chk (decide (0 ≤ (IntKind.wrap .u64 y1.2))) <|
    chk (decide ((y1.1 ++ [(IntKind.wrap .u8 (iShr .u64 p0 (IntKind.wrap .u64 y1.2)))]).length ≤ room)) <|
    some (.inl ((y1.1 ++ [(IntKind.wrap .u8 (iShr .u64 p0 (IntKind.wrap .u64 y1.2)))]), (IntKind.wrap .i64 (y1.2 - 8))))
  else
    some (.inr y1.1)
def r_eight (fuel : Nat) (p0 : Int) : Option ((List UInt8)) :=
  (iter (r_eight_l1 fuel p0) fuel (([] : List Int), 56)).bind fun v3 =>
  some (bytes v3)
def Z304 (x0 : (List Note) × Int × Bool × Int) : SV := .d (.list 5 (List.map encNote x0.1))
def Z305 : SV := .own 5 (List.map encNote ([] : List Note))
def Z307 (x0 : (List UInt8)) : SV := vB ((x0.length : Int) == 0)
def Z308 (x0 : UInt8) : SV := vB ((x0.toNat : Int) != 74)
def Z309 (x0 : (List UInt8)) : SV := vB ((x0.length : Int) == 1)
def Z310 (x0 : UInt8) : SV := .box [vI (IntKind.wrap .i64 (x0.toNat : Int)), vI 0, vS [], vB false, vS []]
def Z311 (x0 : UInt8) : SV := vB (decide ((IntKind.wrap .i64 (x0.toNat : Int)) < 1))
def Z312 (x0 : (List UInt8)) : SV := vB ((x0.length : Int) == 2)
def Z313 (x0 : UInt8) : SV := vB (decide ((x0.toNat : Int) > 3))
def Z314 (x0 : UInt8) : SV := vB ((IntKind.wrap .i64 (x0.toNat : Int)) == 6)
def Z315 (x0 : UInt8) : SV := vB ((x0.toNat : Int) != 0)
def Z316 (x0 : (List UInt8)) : SV := vB ((x0.length : Int) == 3)
def Z317 (x0 : UInt8) : SV := vI (IntKind.wrap .i64 (256 * (IntKind.wrap .i64 (x0.toNat : Int))))
def Z318 (x0 : UInt8) (x1 : UInt8) : SV := vI (IntKind.wrap .i64 ((IntKind.wrap .i64 (256 * (IntKind.wrap .i64 (x0.toNat : Int)))) + (IntKind.wrap .i64 (x1.toNat : Int))))
def Z319 (x0 : UInt8) (x1 : UInt8) (x2 : UInt8) : SV := .box [vI (IntKind.wrap .i64 (x0.toNat : Int)), vI (IntKind.wrap .i64 ((IntKind.wrap .i64 (256 * (IntKind.wrap .i64 (x1.toNat : Int)))) + (IntKind.wrap .i64 (x2.toNat : Int)))), vS [], vB false, vS []]
def Z320 (x0 : UInt8) (x1 : UInt8) (x2 : UInt8) : SV := vB (!(((IntKind.wrap .i64 (x0.toNat : Int)) == 6) == ((IntKind.wrap .i64 ((IntKind.wrap .i64 (256 * (IntKind.wrap .i64 (x1.toNat : Int)))) + (IntKind.wrap .i64 (x2.toNat : Int)))) == 0)))
def Z321 (x0 : (List UInt8)) : SV := vB ((x0.length : Int) == 4)
def Z322 (x0 : UInt8) : SV := vB ((IntKind.wrap .i64 (x0.toNat : Int)) == 2)
def Z323 (x0 : UInt8) : SV := vB (((IntKind.wrap .i64 (x0.toNat : Int)) == 2) || ((IntKind.wrap .i64 (x0.toNat : Int)) == 3))
def Z324 (x0 : UInt8) : SV := vI (IntKind.wrap .i64 (x0.toNat : Int))
def Z325 (x0 : UInt8) : SV := vB (decide ((IntKind.wrap .i64 (x0.toNat : Int)) > 40))
def Z326 (x0 : UInt8) : SV := vB ((IntKind.wrap .i64 (x0.toNat : Int)) != 0)
def Z327 (x0 : (List UInt8)) (x1 : UInt8) : SV := vB (decide ((x0.length : Int) < (IntKind.wrap .i64 ((IntKind.wrap .i64 (5 + (IntKind.wrap .i64 (x1.toNat : Int)))) + 1))))
def Z328 (x0 : UInt8) : SV := vI (IntKind.wrap .i64 (5 + (IntKind.wrap .i64 (x0.toNat : Int))))
def Z329 (x0 : UInt8) (x1 : UInt8) (x2 : UInt8) (x3 : (List UInt8)) (x4 : UInt8) : SV := .box [vI (IntKind.wrap .i64 (x0.toNat : Int)), vI (IntKind.wrap .i64 ((IntKind.wrap .i64 (256 * (IntKind.wrap .i64 (x1.toNat : Int)))) + (IntKind.wrap .i64 (x2.toNat : Int)))), vS (sl x3 5 (IntKind.wrap .i64 (5 + (IntKind.wrap .i64 (x4.toNat : Int))))), vB false, vS []]
def Z330 (x0 : (List UInt8)) (x1 : UInt8) : SV := vS (sl x0 5 (IntKind.wrap .i64 (5 + (IntKind.wrap .i64 (x1.toNat : Int)))))
def Z331 (x0 : UInt8) : SV := vB (decide ((x0.toNat : Int) > 1))
def Z332 (x0 : UInt8) : SV := vB ((x0.toNat : Int) == 1)
def Z333 (x0 : UInt8) (x1 : UInt8) (x2 : UInt8) (x3 : (List UInt8)) (x4 : UInt8) (x5 : UInt8) : SV := .box [vI (IntKind.wrap .i64 (x0.toNat : Int)), vI (IntKind.wrap .i64 ((IntKind.wrap .i64 (256 * (IntKind.wrap .i64 (x1.toNat : Int)))) + (IntKind.wrap .i64 (x2.toNat : Int)))), vS (sl x3 5 (IntKind.wrap .i64 (5 + (IntKind.wrap .i64 (x4.toNat : Int))))), vB ((x5.toNat : Int) == 1), vS []]
def Z334 (x0 : (List UInt8)) (x1 : UInt8) : SV := vB ((x0.length : Int) == (IntKind.wrap .i64 ((IntKind.wrap .i64 (5 + (IntKind.wrap .i64 (x1.toNat : Int)))) + 1)))
def Z335 (x0 : UInt8) : SV := vI (IntKind.wrap .i64 ((IntKind.wrap .i64 (5 + (IntKind.wrap .i64 (x0.toNat : Int)))) + 1))
def Z336 (x0 : UInt8) (x1 : Int) : SV := vB (decide ((IntKind.wrap .i64 (256 * (IntKind.wrap .i64 (x0.toNat : Int)))) > x1))
def Z337 (x0 : (List UInt8)) (x1 : UInt8) : SV := vB ((x0.length : Int) == (IntKind.wrap .i64 ((IntKind.wrap .i64 (5 + (IntKind.wrap .i64 (x1.toNat : Int)))) + 2)))
def Z338 (x0 : UInt8) : SV := vI (IntKind.wrap .i64 ((IntKind.wrap .i64 (5 + (IntKind.wrap .i64 (x0.toNat : Int)))) + 2))
def Z339 (x0 : UInt8) (x1 : UInt8) (x2 : Int) : SV := vB (decide ((IntKind.wrap .i64 ((IntKind.wrap .i64 (256 * (IntKind.wrap .i64 (x0.toNat : Int)))) + (IntKind.wrap .i64 (x1.toNat : Int)))) > x2))
def Z340 (x0 : UInt8) (x1 : UInt8) : SV := vB ((IntKind.wrap .i64 ((IntKind.wrap .i64 (256 * (IntKind.wrap .i64 (x0.toNat : Int)))) + (IntKind.wrap .i64 (x1.toNat : Int)))) == 0)
def Z341 (x0 : UInt8) : SV := vI (IntKind.wrap .i64 ((IntKind.wrap .i64 (5 + (IntKind.wrap .i64 (x0.toNat : Int)))) + 3))
def Z342 (x0 : (List UInt8)) (x1 : UInt8) (x2 : UInt8) (x3 : UInt8) : SV := vB (decide ((x0.length : Int) < (IntKind.wrap .i64 ((IntKind.wrap .i64 ((IntKind.wrap .i64 (5 + (IntKind.wrap .i64 (x1.toNat : Int)))) + 3)) + (IntKind.wrap .i64 ((IntKind.wrap .i64 (256 * (IntKind.wrap .i64 (x2.toNat : Int)))) + (IntKind.wrap .i64 (x3.toNat : Int))))))))
def Z343 (x0 : UInt8) (x1 : UInt8) (x2 : UInt8) : SV := vI (IntKind.wrap .i64 ((IntKind.wrap .i64 ((IntKind.wrap .i64 (5 + (IntKind.wrap .i64 (x0.toNat : Int)))) + 3)) + (IntKind.wrap .i64 ((IntKind.wrap .i64 (256 * (IntKind.wrap .i64 (x1.toNat : Int)))) + (IntKind.wrap .i64 (x2.toNat : Int))))))
def Z344 (x0 : UInt8) (x1 : UInt8) (x2 : UInt8) (x3 : (List UInt8)) (x4 : UInt8) (x5 : UInt8) (x6 : UInt8) (x7 : UInt8) : SV := .box [vI (IntKind.wrap .i64 (x0.toNat : Int)), vI (IntKind.wrap .i64 ((IntKind.wrap .i64 (256 * (IntKind.wrap .i64 (x1.toNat : Int)))) + (IntKind.wrap .i64 (x2.toNat : Int)))), vS (sl x3 5 (IntKind.wrap .i64 (5 + (IntKind.wrap .i64 (x4.toNat : Int))))), vB ((x5.toNat : Int) == 1), vS (sl x3 (IntKind.wrap .i64 ((IntKind.wrap .i64 (5 + (IntKind.wrap .i64 (x4.toNat : Int)))) + 3)) (IntKind.wrap .i64 ((IntKind.wrap .i64 ((IntKind.wrap .i64 (5 + (IntKind.wrap .i64 (x4.toNat : Int)))) + 3)) + (IntKind.wrap .i64 ((IntKind.wrap .i64 (256 * (IntKind.wrap .i64 (x6.toNat : Int)))) + (IntKind.wrap .i64 (x7.toNat : Int)))))))]
def Z345 (x0 : (List UInt8)) (x1 : UInt8) (x2 : UInt8) (x3 : UInt8) : SV := vS (sl x0 (IntKind.wrap .i64 ((IntKind.wrap .i64 (5 + (IntKind.wrap .i64 (x1.toNat : Int)))) + 3)) (IntKind.wrap .i64 ((IntKind.wrap .i64 ((IntKind.wrap .i64 (5 + (IntKind.wrap .i64 (x1.toNat : Int)))) + 3)) + (IntKind.wrap .i64 ((IntKind.wrap .i64 (256 * (IntKind.wrap .i64 (x2.toNat : Int)))) + (IntKind.wrap .i64 (x3.toNat : Int)))))))
def Z346 : SV := .own 1 (List.map (D.int .u8) ([] : List Int))
def Z349 (x0 : (List Int) × Int) : SV := .own 1 (List.map (D.int .u8) x0.1)
def Z350 (x0 : (List Int) × Int) : SV := .d (.int .u64 (IntKind.wrap .u64 x0.2))
def Z351 (x0 : Int) (x1 : (List Int) × Int) : SV := .own 1 (List.map (D.int .u8) [(IntKind.wrap .u8 (iShr .u64 x0 (IntKind.wrap .u64 x1.2)))])
def Z352 (x0 : (List Int) × Int) (x1 : Int) : SV := .own 1 (List.map (D.int .u8) (x0.1 ++ [(IntKind.wrap .u8 (iShr .u64 x1 (IntKind.wrap .u64 x0.2)))]))
def Z353 (x0 : (List Int) × Int) : SV := vI (IntKind.wrap .i64 (x0.2 - 8))
def Z354 (x0 : Int) (x1 : (List Int) × Int) : SV := .d (.int .u64 (iShr .u64 x0 (IntKind.wrap .u64 x1.2)))
def Z355 (x0 : (List Int)) : SV := .own 1 (List.map (D.int .u8) x0)
theorem r_eight_ok {fuel : Nat} {p0 : Int} {r : (List UInt8)} (h : r_eight fuel p0 = some r) : PC Try.prog 63 [.d (.int .u64 p0)] (vS r) := by
  refine PC.of_SW Try.func63 rfl fun H => ?_
  unfold r_eight at h
  refine SW.kp 19 H [0] [(0, .d (.int .u64 p0))] (by kernel_rfl) <| SW.R 2 [(0, .d (.int .u64 p0)), (3, Z346)] <| SW.seq <| SW.R 1 [(0, .d (.int .u64 p0)), (3, Z346), (4, vI 56)] <| SW.block ?_
  obtain ⟨v3, hit, h⟩ := bind_inv h
  refine SW.it 19 H [0, 3, 4] (fun y1 => [(0, .d (.int .u64 p0)), (3, .own 1 (List.map (D.int .u8) y1.1)), (4, vI y1.2)]) (fun v3 e s => (e = .exit 0 ∧ s = (sp 19 [(3, .own 1 (List.map (D.int .u8) v3))] H))) hit (by kernel_rfl) (fun y1 o h => ?_) ?_
  · unfold r_eight_l1 at h
    refine SW.seq <| SW.R 1 [(0, .d (.int .u64 p0)), (3, Z349 y1), (4, vI y1.2), (6, vB (decide (y1.2 ≥ 0)))] ?_
    refine SW.B (decide (y1.2 ≥ 0)) (fun hc => ?_) (fun hc => ?_)
    · replace h := bif_t hc h
      refine SW.skip <| thenS_n <| SW.seq <| SW.block <| SW.regionK <| OWk.sg 19 H [9] [0, 4, 9, 10, 12] 4 [(0, .d (.int .u64 p0)), (4, vI y1.2), (9, Z349 y1), (10, .d (.int .u64 p0)), (12, Z350 y1)] (by kernel_rfl) ?_
      obtain ⟨hk, h⟩ := chk_inv h
      refine OWk.O (d := some 13) (s := .d (.int .u64 (iShr .u64 p0 (IntKind.wrap .u64 y1.2)))) [(0, .d (.int .u64 p0)), (4, vI y1.2), (9, Z349 y1), (13, Z354 p0 y1)] (BAt.shift (l := false) (kk := .u64) (a := p0) (b := (IntKind.wrap .u64 y1.2)) hk (by kernel_rfl)) <| OWk.sg 19 H [9] [0, 4, 9, 15] 2 [(0, .d (.int .u64 p0)), (4, vI y1.2), (9, Z349 y1), (15, Z351 p0 y1)] (by kernel_rfl) ?_
      obtain ⟨hk, h⟩ := chk_inv h
      refine OWk.app 19 H (s := 9) (d := 16) (w := 1) [0, 4, 16] (zs := List.map (D.int .u8) (y1.1 ++ [(IntKind.wrap .u8 (iShr .u64 p0 (IntKind.wrap .u64 y1.2)))])) [(0, .d (.int .u64 p0)), (4, vI y1.2), (16, Z352 y1 p0)] (ys := (List.map (D.int .u8) [(IntKind.wrap .u8 (iShr .u64 p0 (IntKind.wrap .u64 y1.2)))])) (by kernel_rfl) (map_append') (room_map hk) (by kernel_rfl) <| OWk.sg 19 H [9] [0, 3, 4] 1 [(0, .d (.int .u64 p0)), (3, Z352 y1 p0), (4, vI y1.2)] (by kernel_rfl) <| OWk.D <| blockS_n <| thenS_n <| SW.regionK <| OWk.G 3 [(0, .d (.int .u64 p0)), (3, Z352 y1 p0), (4, Z353 y1)] <| OWk.D ?_
      cases h
      exact ⟨((y1.1 ++ [(IntKind.wrap .u8 (iShr .u64 p0 (IntKind.wrap .u64 y1.2)))]), (IntKind.wrap .i64 (y1.2 - 8))), rfl, by kernel_rfl⟩
    · replace h := bif_f hc h
      refine SW.K [(3, Z349 y1)] <| SW.exit <| thenS_e ?_
      cases h
      refine thenS_e ?_
      exact ⟨_, rfl, ⟨rfl, rfl⟩⟩
  · rintro _ _ ⟨rfl, rfl⟩
    refine blockS_hit <| thenS_n <| SW.S <| OWk.sg 19 H [17] [17] 1 [(17, Z355 v3)] (by kernel_rfl) <| OWk.O (d := some 18) [(18, vS (bytes v3))] (BAt.str (l := v3) (by kernel_rfl)) <| OWk.sg 19 H [17] [2] 1 [(2, vS (bytes v3))] (by kernel_rfl) <| OWk.E <| SW.ret ?_
    cases h
    exact EndQ.ret [] (by kernel_rfl) rfl
def r_Sum_l1 (fuel : Nat) (p1 : (List UInt8)) (r1 : (List UInt8)) (y2 : Int × Int) : Option ((Int × Int) ⊕ (Int)) :=
  bif (decide (y2.2 < ((r1 ++ p1).length : Int))) then
    (idx (r1 ++ p1) y2.2).bind fun b3 =>
    some (.inl ((IntKind.wrap .u64 ((iBits.xor .u64 y2.1 (IntKind.wrap .u64 (b3.toNat : Int))) * 1099511628211)), (IntKind.wrap .i64 (y2.2 + 1))))
  else
    some (.inr y2.1)
def r_Sum (fuel : Nat) (p0 : Int) (p1 : (List UInt8)) : Option (Int) :=
  (r_eight fuel p0).bind fun r1 =>
  chk (decide ((r1 ++ p1).length ≤ room)) <|
  (iter (r_Sum_l1 fuel p1 r1) fuel (14695981039346656037, 0)).bind fun v5 =>
  some v5
def Z358 (x0 : (List UInt8)) (x1 : (List UInt8)) : SV := vI ((x0 ++ x1).length : Int)
def Z359 (x0 : Int × Int) (x1 : (List UInt8)) (x2 : (List UInt8)) : SV := vB (decide (x0.2 < ((x1 ++ x2).length : Int)))
def Z360 (x0 : Int × Int) (x1 : UInt8) : SV := .d (.int .u64 (IntKind.wrap .u64 ((iBits.xor .u64 x0.1 (IntKind.wrap .u64 (x1.toNat : Int))) * 1099511628211)))
theorem r_Sum_ok {fuel : Nat} {p0 : Int} {p1 : (List UInt8)} {r : Int} (h : r_Sum fuel p0 p1 = some r) : PC Try.prog 31 [.d (.int .u64 p0), vS p1] (.d (.int .u64 r)) := by
  refine PC.of_SW Try.func31 rfl fun H => ?_
  unfold r_Sum at h
  refine SW.kp 26 H [0, 1] [(0, .d (.int .u64 p0)), (1, vS p1)] (by kernel_rfl) <| SW.R 2 [(0, .d (.int .u64 p0)), (1, vS p1), (5, Z271)] <| SW.S <| OWk.G 1 [(1, vS p1), (5, Z271), (8, .d (.int .u64 p0))] ?_
  obtain ⟨r1, hr, h⟩ := bind_inv h
  refine OWk.C0 (some 9) [(1, vS p1), (5, Z271), (9, vS r1)] (r_eight_ok hr) <| OWk.G 1 [(5, Z271), (9, vS r1), (10, vS p1)] ?_
  obtain ⟨hk, h⟩ := chk_inv h
  refine OWk.O (d := some 11) [(5, Z271), (11, vS (r1 ++ p1))] (BAt.addS hk (by kernel_rfl)) <| OWk.G 1 [(5, Z271), (6, vS (r1 ++ p1))] <| OWk.E <| SW.seq <| SW.R 1 [(5, Z271), (6, vS (r1 ++ p1)), (7, vI 0)] <| SW.block ?_
  obtain ⟨v5, hit, h⟩ := bind_inv h
  refine SW.it 26 H [5, 6, 7] (fun y2 => [(5, .d (.int .u64 y2.1)), (6, vS (r1 ++ p1)), (7, vI y2.2)]) (fun v5 e s => (e = .exit 0 ∧ s = (sp 26 [(5, .d (.int .u64 v5))] H))) hit (by kernel_rfl) (fun y2 o h => ?_) ?_
  · unfold r_Sum_l1 at h
    refine SW.seq <| SW.S <| OWk.G 2 [(5, .d (.int .u64 y2.1)), (6, vS (r1 ++ p1)), (7, vI y2.2), (12, vI y2.2), (13, vS (r1 ++ p1))] <| OWk.G 1 [(5, .d (.int .u64 y2.1)), (6, vS (r1 ++ p1)), (7, vI y2.2), (12, vI y2.2), (14, Z358 r1 p1)] <| OWk.G 1 [(5, .d (.int .u64 y2.1)), (6, vS (r1 ++ p1)), (7, vI y2.2), (15, Z359 y2 r1 p1)] <| OWk.E ?_
    refine SW.B (decide (y2.2 < ((r1 ++ p1).length : Int))) (fun hc => ?_) (fun hc => ?_)
    · replace h := bif_t hc h
      refine SW.skip <| thenS_n <| SW.seq <| SW.block <| SW.regionK <| OWk.G 3 [(6, vS (r1 ++ p1)), (7, vI y2.2), (18, .d (.int .u64 y2.1)), (19, vS (r1 ++ p1)), (20, vI y2.2)] ?_
      obtain ⟨b3, hx, h⟩ := bind_inv h
      refine OWk.O (d := some 21) [(6, vS (r1 ++ p1)), (7, vI y2.2), (18, .d (.int .u64 y2.1)), (21, .d (.int .u8 (b3.toNat : Int)))] (BAt.indexS hx (by kernel_rfl)) <| OWk.G 4 [(5, Z360 y2 b3), (6, vS (r1 ++ p1)), (7, vI y2.2)] <| OWk.D <| blockS_n <| thenS_n <| SW.regionK <| OWk.G 3 [(5, Z360 y2 b3), (6, vS (r1 ++ p1)), (7, Z10 y2)] <| OWk.D ?_
      cases h
      exact ⟨((IntKind.wrap .u64 ((iBits.xor .u64 y2.1 (IntKind.wrap .u64 (b3.toNat : Int))) * 1099511628211)), (IntKind.wrap .i64 (y2.2 + 1))), rfl, by kernel_rfl⟩
    · replace h := bif_f hc h
      refine SW.K [(5, .d (.int .u64 y2.1))] <| SW.exit <| thenS_e ?_
      cases h
      refine thenS_e ?_
      exact ⟨_, rfl, ⟨rfl, rfl⟩⟩
  · rintro _ _ ⟨rfl, rfl⟩
    refine blockS_hit <| thenS_n <| SW.R 1 [(4, .d (.int .u64 v5))] <| SW.ret ?_
    cases h
    exact EndQ.ret [] (by kernel_rfl) rfl
def r_look_l1 (fuel : Nat) (p0 : (List UInt8)) (b9 : UInt8) (b22 : UInt8) (b23 : UInt8) (r27 : (List UInt8)) (y28 : Int × Int × (List UInt8) × Bool × (List UInt8) × Int × Int) : Option ((Int × Int × (List UInt8) × Bool × (List UInt8) × Int × Int) ⊕ ((Int × Int × (List UInt8) × Bool × (List UInt8) × Int) ⊕ ((Note × Int × Int × Bool)))) :=
  bif (decide (y28.2.2.2.2.2.2 < 8)) then
    bif ((IntKind.wrap .i64 ((IntKind.wrap .i64 ((IntKind.wrap .i64 ((IntKind.wrap .i64 (5 + (IntKind.wrap .i64 (b9.toNat : Int)))) + 3)) + (IntKind.wrap .i64 ((IntKind.wrap .i64 (256 * (IntKind.wrap .i64 (b22.toNat : Int)))) + (IntKind.wrap .i64 (b23.toNat : Int)))))) + y28.2.2.2.2.2.2)) == (p0.length : Int)) then
      some (.inr (.inr ((⟨y28.1, y28.2.1, y28.2.2.1, y28.2.2.2.1, y28.2.2.2.2.1⟩ : Note), 0, 0, true)))
    else
      (idx p0 (IntKind.wrap .i64 ((IntKind.wrap .i64 ((IntKind.wrap .i64 ((IntKind.wrap .i64 (5 + (IntKind.wrap .i64 (b9.toNat : Int)))) + 3)) + (IntKind.wrap .i64 ((IntKind.wrap .i64 (256 * (IntKind.wrap .i64 (b22.toNat : Int)))) + (IntKind.wrap .i64 (b23.toNat : Int)))))) + y28.2.2.2.2.2.2))).bind fun b29 =>
      (idx r27 y28.2.2.2.2.2.2).bind fun b30 =>
      bif ((b29.toNat : Int) != (b30.toNat : Int)) then
        some (.inr (.inr ((⟨y28.1, y28.2.1, y28.2.2.1, y28.2.2.2.1, y28.2.2.2.2.1⟩ : Note), 0, 0, false)))
      else
        some (.inl (y28.1, y28.2.1, y28.2.2.1, y28.2.2.2.1, y28.2.2.2.2.1, y28.2.2.2.2.2.1, (IntKind.wrap .i64 (y28.2.2.2.2.2.2 + 1))))
  else
    some (.inr (.inl (y28.1, y28.2.1, y28.2.2.1, y28.2.2.2.1, y28.2.2.2.2.1, y28.2.2.2.2.2.1)))
def r_look (fuel : Nat) (p0 : (List UInt8)) (p1 : Int) : Option (Note × Int × Int × Bool) :=
  bif ((p0.length : Int) == 0) then
    some ((⟨0, 0, [], false, []⟩ : Note), 0, 0, true)
  else
    (idx p0 0).bind fun b1 =>
    bif ((b1.toNat : Int) != 74) then
      some ((⟨0, 0, [], false, []⟩ : Note), 0, 0, false)
    else
      bif ((p0.length : Int) == 1) then
        some ((⟨0, 0, [], false, []⟩ : Note), 0, 0, true)
      else
        (idx p0 1).bind fun b2 =>
        bif ((decide ((IntKind.wrap .i64 (b2.toNat : Int)) < 1)) || (decide ((IntKind.wrap .i64 (b2.toNat : Int)) > 7))) then
          some ((⟨(IntKind.wrap .i64 (b2.toNat : Int)), 0, [], false, []⟩ : Note), 0, 0, false)
        else
          bif ((p0.length : Int) == 2) then
            some ((⟨(IntKind.wrap .i64 (b2.toNat : Int)), 0, [], false, []⟩ : Note), 0, 0, true)
          else
            letJ (fun (j3 : Unit) =>
              bif ((p0.length : Int) == 3) then
                some ((⟨(IntKind.wrap .i64 (b2.toNat : Int)), 0, [], false, []⟩ : Note), 0, 0, true)
              else
                (idx p0 2).bind fun b7 =>
                (idx p0 3).bind fun b8 =>
                bif ((!(((IntKind.wrap .i64 (b2.toNat : Int)) == 6) == ((IntKind.wrap .i64 ((IntKind.wrap .i64 (256 * (IntKind.wrap .i64 (b7.toNat : Int)))) + (IntKind.wrap .i64 (b8.toNat : Int)))) == 0))) || (decide ((IntKind.wrap .i64 ((IntKind.wrap .i64 (256 * (IntKind.wrap .i64 (b7.toNat : Int)))) + (IntKind.wrap .i64 (b8.toNat : Int)))) > 1000))) then
                  some ((⟨(IntKind.wrap .i64 (b2.toNat : Int)), (IntKind.wrap .i64 ((IntKind.wrap .i64 (256 * (IntKind.wrap .i64 (b7.toNat : Int)))) + (IntKind.wrap .i64 (b8.toNat : Int)))), [], false, []⟩ : Note), 0, 0, false)
                else
                  bif ((p0.length : Int) == 4) then
                    some ((⟨(IntKind.wrap .i64 (b2.toNat : Int)), (IntKind.wrap .i64 ((IntKind.wrap .i64 (256 * (IntKind.wrap .i64 (b7.toNat : Int)))) + (IntKind.wrap .i64 (b8.toNat : Int)))), [], false, []⟩ : Note), 0, 0, true)
                  else
                    (idx p0 4).bind fun b9 =>
                    letJ (fun (j10 : Bool) =>
                      bif (decide ((p0.length : Int) < (IntKind.wrap .i64 ((IntKind.wrap .i64 (5 + (IntKind.wrap .i64 (b9.toNat : Int)))) + 1)))) then
                        some ((⟨(IntKind.wrap .i64 (b2.toNat : Int)), (IntKind.wrap .i64 ((IntKind.wrap .i64 (256 * (IntKind.wrap .i64 (b7.toNat : Int)))) + (IntKind.wrap .i64 (b8.toNat : Int)))), [], false, []⟩ : Note), 0, 0, true)
                      else
                        chk (slOk p0 5 (IntKind.wrap .i64 (5 + (IntKind.wrap .i64 (b9.toNat : Int))))) <|
                        letJ (fun (j12 : Unit) =>
                          (idx p0 (IntKind.wrap .i64 (5 + (IntKind.wrap .i64 (b9.toNat : Int))))).bind fun b16 =>
                          letJ (fun (j17 : Int) =>
                            letJ (fun (j19 : Int) =>
                              bif ((p0.length : Int) == (IntKind.wrap .i64 ((IntKind.wrap .i64 (5 + (IntKind.wrap .i64 (b9.toNat : Int)))) + 1))) then
                                some ((⟨(IntKind.wrap .i64 (b2.toNat : Int)), (IntKind.wrap .i64 ((IntKind.wrap .i64 (256 * (IntKind.wrap .i64 (b7.toNat : Int)))) + (IntKind.wrap .i64 (b8.toNat : Int)))), (sl p0 5 (IntKind.wrap .i64 (5 + (IntKind.wrap .i64 (b9.toNat : Int))))), ((b16.toNat : Int) == 1), []⟩ : Note), 0, 0, true)
                              else
                                (idx p0 (IntKind.wrap .i64 ((IntKind.wrap .i64 (5 + (IntKind.wrap .i64 (b9.toNat : Int)))) + 1))).bind fun b21 =>
                                bif (decide ((IntKind.wrap .i64 (256 * (IntKind.wrap .i64 (b21.toNat : Int)))) > j19)) then
                                  some ((⟨(IntKind.wrap .i64 (b2.toNat : Int)), (IntKind.wrap .i64 ((IntKind.wrap .i64 (256 * (IntKind.wrap .i64 (b7.toNat : Int)))) + (IntKind.wrap .i64 (b8.toNat : Int)))), (sl p0 5 (IntKind.wrap .i64 (5 + (IntKind.wrap .i64 (b9.toNat : Int))))), ((b16.toNat : Int) == 1), []⟩ : Note), 0, 0, false)
                                else
                                  bif ((p0.length : Int) == (IntKind.wrap .i64 ((IntKind.wrap .i64 (5 + (IntKind.wrap .i64 (b9.toNat : Int)))) + 2))) then
                                    some ((⟨(IntKind.wrap .i64 (b2.toNat : Int)), (IntKind.wrap .i64 ((IntKind.wrap .i64 (256 * (IntKind.wrap .i64 (b7.toNat : Int)))) + (IntKind.wrap .i64 (b8.toNat : Int)))), (sl p0 5 (IntKind.wrap .i64 (5 + (IntKind.wrap .i64 (b9.toNat : Int))))), ((b16.toNat : Int) == 1), []⟩ : Note), 0, 0, true)
                                  else
                                    (idx p0 (IntKind.wrap .i64 ((IntKind.wrap .i64 (5 + (IntKind.wrap .i64 (b9.toNat : Int)))) + 1))).bind fun b22 =>
                                    (idx p0 (IntKind.wrap .i64 ((IntKind.wrap .i64 (5 + (IntKind.wrap .i64 (b9.toNat : Int)))) + 2))).bind fun b23 =>
                                    letJ (fun (j24 : Unit) =>
                                      bif (decide ((p0.length : Int) < (IntKind.wrap .i64 ((IntKind.wrap .i64 ((IntKind.wrap .i64 (5 + (IntKind.wrap .i64 (b9.toNat : Int)))) + 3)) + (IntKind.wrap .i64 ((IntKind.wrap .i64 (256 * (IntKind.wrap .i64 (b22.toNat : Int)))) + (IntKind.wrap .i64 (b23.toNat : Int)))))))) then
                                        some ((⟨(IntKind.wrap .i64 (b2.toNat : Int)), (IntKind.wrap .i64 ((IntKind.wrap .i64 (256 * (IntKind.wrap .i64 (b7.toNat : Int)))) + (IntKind.wrap .i64 (b8.toNat : Int)))), (sl p0 5 (IntKind.wrap .i64 (5 + (IntKind.wrap .i64 (b9.toNat : Int))))), ((b16.toNat : Int) == 1), []⟩ : Note), 0, 0, true)
                                      else
                                        chk (slOk p0 (IntKind.wrap .i64 ((IntKind.wrap .i64 (5 + (IntKind.wrap .i64 (b9.toNat : Int)))) + 3)) (IntKind.wrap .i64 ((IntKind.wrap .i64 ((IntKind.wrap .i64 (5 + (IntKind.wrap .i64 (b9.toNat : Int)))) + 3)) + (IntKind.wrap .i64 ((IntKind.wrap .i64 (256 * (IntKind.wrap .i64 (b22.toNat : Int)))) + (IntKind.wrap .i64 (b23.toNat : Int))))))) <|
                                        chk (slOk p0 0 (IntKind.wrap .i64 ((IntKind.wrap .i64 ((IntKind.wrap .i64 (5 + (IntKind.wrap .i64 (b9.toNat : Int)))) + 3)) + (IntKind.wrap .i64 ((IntKind.wrap .i64 (256 * (IntKind.wrap .i64 (b22.toNat : Int)))) + (IntKind.wrap .i64 (b23.toNat : Int))))))) <|
                                        (r_Sum fuel p1 (sl p0 0 (IntKind.wrap .i64 ((IntKind.wrap .i64 ((IntKind.wrap .i64 (5 + (IntKind.wrap .i64 (b9.toNat : Int)))) + 3)) + (IntKind.wrap .i64 ((IntKind.wrap .i64 (256 * (IntKind.wrap .i64 (b22.toNat : Int)))) + (IntKind.wrap .i64 (b23.toNat : Int)))))))).bind fun r26 =>
                                        (r_eight fuel r26).bind fun r27 =>
                                        (iter (r_look_l1 fuel p0 b9 b22 b23 r27) fuel ((IntKind.wrap .i64 (b2.toNat : Int)), (IntKind.wrap .i64 ((IntKind.wrap .i64 (256 * (IntKind.wrap .i64 (b7.toNat : Int)))) + (IntKind.wrap .i64 (b8.toNat : Int)))), (sl p0 5 (IntKind.wrap .i64 (5 + (IntKind.wrap .i64 (b9.toNat : Int))))), ((b16.toNat : Int) == 1), (sl p0 (IntKind.wrap .i64 ((IntKind.wrap .i64 (5 + (IntKind.wrap .i64 (b9.toNat : Int)))) + 3)) (IntKind.wrap .i64 ((IntKind.wrap .i64 ((IntKind.wrap .i64 (5 + (IntKind.wrap .i64 (b9.toNat : Int)))) + 3)) + (IntKind.wrap .i64 ((IntKind.wrap .i64 (256 * (IntKind.wrap .i64 (b22.toNat : Int)))) + (IntKind.wrap .i64 (b23.toNat : Int))))))), r26, 0)).bind (Sum.elim (fun v32 =>
                                          some ((⟨v32.1, v32.2.1, v32.2.2.1, v32.2.2.2.1, v32.2.2.2.2.1⟩ : Note), (IntKind.wrap .i64 ((IntKind.wrap .i64 ((IntKind.wrap .i64 ((IntKind.wrap .i64 (5 + (IntKind.wrap .i64 (b9.toNat : Int)))) + 3)) + (IntKind.wrap .i64 ((IntKind.wrap .i64 (256 * (IntKind.wrap .i64 (b22.toNat : Int)))) + (IntKind.wrap .i64 (b23.toNat : Int)))))) + 8)), v32.2.2.2.2.2, false)) (fun r33 =>
                                          some r33))) fun jp25 =>
                                    bif (decide ((IntKind.wrap .i64 ((IntKind.wrap .i64 (256 * (IntKind.wrap .i64 (b22.toNat : Int)))) + (IntKind.wrap .i64 (b23.toNat : Int)))) > j19)) then
                                      some ((⟨(IntKind.wrap .i64 (b2.toNat : Int)), (IntKind.wrap .i64 ((IntKind.wrap .i64 (256 * (IntKind.wrap .i64 (b7.toNat : Int)))) + (IntKind.wrap .i64 (b8.toNat : Int)))), (sl p0 5 (IntKind.wrap .i64 (5 + (IntKind.wrap .i64 (b9.toNat : Int))))), ((b16.toNat : Int) == 1), []⟩ : Note), 0, 0, false)
                                    else
                                      bif ((IntKind.wrap .i64 (b2.toNat : Int)) == 6) then
                                        bif ((IntKind.wrap .i64 ((IntKind.wrap .i64 (256 * (IntKind.wrap .i64 (b22.toNat : Int)))) + (IntKind.wrap .i64 (b23.toNat : Int)))) == 0) then
                                          some ((⟨(IntKind.wrap .i64 (b2.toNat : Int)), (IntKind.wrap .i64 ((IntKind.wrap .i64 (256 * (IntKind.wrap .i64 (b7.toNat : Int)))) + (IntKind.wrap .i64 (b8.toNat : Int)))), (sl p0 5 (IntKind.wrap .i64 (5 + (IntKind.wrap .i64 (b9.toNat : Int))))), ((b16.toNat : Int) == 1), []⟩ : Note), 0, 0, false)
                                        else
                                          jp25 ()
                                      else
                                        jp25 ()) fun jp20 =>
                            bif ((IntKind.wrap .i64 (b2.toNat : Int)) == 6) then
                              jp20 40
                            else
                              jp20 j17) fun jp18 =>
                          bif ((b16.toNat : Int) == 1) then
                            jp18 4000
                          else
                            jp18 0) fun jp13 =>
                        (idx p0 (IntKind.wrap .i64 (5 + (IntKind.wrap .i64 (b9.toNat : Int))))).bind fun b14 =>
                        bif (decide ((b14.toNat : Int) > 1)) then
                          some ((⟨(IntKind.wrap .i64 (b2.toNat : Int)), (IntKind.wrap .i64 ((IntKind.wrap .i64 (256 * (IntKind.wrap .i64 (b7.toNat : Int)))) + (IntKind.wrap .i64 (b8.toNat : Int)))), (sl p0 5 (IntKind.wrap .i64 (5 + (IntKind.wrap .i64 (b9.toNat : Int))))), false, []⟩ : Note), 0, 0, false)
                        else
                          (idx p0 (IntKind.wrap .i64 (5 + (IntKind.wrap .i64 (b9.toNat : Int))))).bind fun b15 =>
                          bif ((b15.toNat : Int) == 1) then
                            bif (!j10) then
                              some ((⟨(IntKind.wrap .i64 (b2.toNat : Int)), (IntKind.wrap .i64 ((IntKind.wrap .i64 (256 * (IntKind.wrap .i64 (b7.toNat : Int)))) + (IntKind.wrap .i64 (b8.toNat : Int)))), (sl p0 5 (IntKind.wrap .i64 (5 + (IntKind.wrap .i64 (b9.toNat : Int))))), false, []⟩ : Note), 0, 0, false)
                            else
                              jp13 ()
                          else
                            jp13 ()) fun jp11 =>
                    bif (((IntKind.wrap .i64 (b2.toNat : Int)) == 2) || ((IntKind.wrap .i64 (b2.toNat : Int)) == 3)) then
                      bif (decide ((IntKind.wrap .i64 (b9.toNat : Int)) < 1)) then
                        some ((⟨(IntKind.wrap .i64 (b2.toNat : Int)), (IntKind.wrap .i64 ((IntKind.wrap .i64 (256 * (IntKind.wrap .i64 (b7.toNat : Int)))) + (IntKind.wrap .i64 (b8.toNat : Int)))), [], false, []⟩ : Note), 0, 0, false)
                      else
                        bif ((decide ((IntKind.wrap .i64 (b9.toNat : Int)) > 40)) || false) then
                          some ((⟨(IntKind.wrap .i64 (b2.toNat : Int)), (IntKind.wrap .i64 ((IntKind.wrap .i64 (256 * (IntKind.wrap .i64 (b7.toNat : Int)))) + (IntKind.wrap .i64 (b8.toNat : Int)))), [], false, []⟩ : Note), 0, 0, false)
                        else
                          jp11 true
                    else
                      bif ((IntKind.wrap .i64 (b9.toNat : Int)) != 0) then
                        some ((⟨(IntKind.wrap .i64 (b2.toNat : Int)), (IntKind.wrap .i64 ((IntKind.wrap .i64 (256 * (IntKind.wrap .i64 (b7.toNat : Int)))) + (IntKind.wrap .i64 (b8.toNat : Int)))), [], false, []⟩ : Note), 0, 0, false)
                      else
                        jp11 false) fun jp4 =>
            (idx p0 2).bind fun b5 =>
            bif (decide ((b5.toNat : Int) > 3)) then
              some ((⟨(IntKind.wrap .i64 (b2.toNat : Int)), 0, [], false, []⟩ : Note), 0, 0, false)
            else
              bif ((IntKind.wrap .i64 (b2.toNat : Int)) == 6) then
                (idx p0 2).bind fun b6 =>
                bif ((b6.toNat : Int) != 0) then
                  some ((⟨(IntKind.wrap .i64 (b2.toNat : Int)), 0, [], false, []⟩ : Note), 0, 0, false)
                else
                  jp4 ()
              else
                jp4 ()
def Z361 (x0 : (List UInt8)) (x1 : UInt8) (x2 : UInt8) (x3 : UInt8) : SV := vS (sl x0 0 (IntKind.wrap .i64 ((IntKind.wrap .i64 ((IntKind.wrap .i64 (5 + (IntKind.wrap .i64 (x1.toNat : Int)))) + 3)) + (IntKind.wrap .i64 ((IntKind.wrap .i64 (256 * (IntKind.wrap .i64 (x2.toNat : Int)))) + (IntKind.wrap .i64 (x3.toNat : Int)))))))
def Z364 (x0 : UInt8) : SV := .d (.int .u8 (x0.toNat : Int))
def Z365 (x0 : UInt8) (x1 : UInt8) : SV := vB ((x0.toNat : Int) != (x1.toNat : Int))
def Z366 (x0 : Int × Int × (List UInt8) × Bool × (List UInt8) × Int × Int) : SV := .box [vI x0.1, vI x0.2.1, vS x0.2.2.1, vB x0.2.2.2.1, vS x0.2.2.2.2.1]
def Z367 (x0 : Int × Int × (List UInt8) × Bool × (List UInt8) × Int × Int) : SV := .d (.int .u64 x0.2.2.2.2.2.1)
def Z368 (x0 : Int × Int × (List UInt8) × Bool × (List UInt8) × Int × Int) : SV := vB (decide (x0.2.2.2.2.2.2 < 8))
def Z369 (x0 : UInt8) (x1 : UInt8) (x2 : UInt8) (x3 : Int × Int × (List UInt8) × Bool × (List UInt8) × Int × Int) : SV := vI (IntKind.wrap .i64 ((IntKind.wrap .i64 ((IntKind.wrap .i64 ((IntKind.wrap .i64 (5 + (IntKind.wrap .i64 (x0.toNat : Int)))) + 3)) + (IntKind.wrap .i64 ((IntKind.wrap .i64 (256 * (IntKind.wrap .i64 (x1.toNat : Int)))) + (IntKind.wrap .i64 (x2.toNat : Int)))))) + x3.2.2.2.2.2.2))
def Z370 (x0 : UInt8) (x1 : UInt8) (x2 : UInt8) (x3 : Int × Int × (List UInt8) × Bool × (List UInt8) × Int × Int) (x4 : (List UInt8)) : SV := vB ((IntKind.wrap .i64 ((IntKind.wrap .i64 ((IntKind.wrap .i64 ((IntKind.wrap .i64 (5 + (IntKind.wrap .i64 (x0.toNat : Int)))) + 3)) + (IntKind.wrap .i64 ((IntKind.wrap .i64 (256 * (IntKind.wrap .i64 (x1.toNat : Int)))) + (IntKind.wrap .i64 (x2.toNat : Int)))))) + x3.2.2.2.2.2.2)) == (x4.length : Int))
def Z371 (x0 : Int × Int × (List UInt8) × Bool × (List UInt8) × Int × Int) : SV := vI (IntKind.wrap .i64 (x0.2.2.2.2.2.2 + 1))
def Z372 (x0 : Int × Int × (List UInt8) × Bool × (List UInt8) × Int) : SV := .box [vI x0.1, vI x0.2.1, vS x0.2.2.1, vB x0.2.2.2.1, vS x0.2.2.2.2.1]
def Z373 (x0 : UInt8) (x1 : UInt8) (x2 : UInt8) : SV := vI (IntKind.wrap .i64 ((IntKind.wrap .i64 ((IntKind.wrap .i64 ((IntKind.wrap .i64 (5 + (IntKind.wrap .i64 (x0.toNat : Int)))) + 3)) + (IntKind.wrap .i64 ((IntKind.wrap .i64 (256 * (IntKind.wrap .i64 (x1.toNat : Int)))) + (IntKind.wrap .i64 (x2.toNat : Int)))))) + 8))
def Z374 (x0 : Int × Int × (List UInt8) × Bool × (List UInt8) × Int) : SV := .d (.int .u64 x0.2.2.2.2.2)
theorem r_look_ok {fuel : Nat} {p0 : (List UInt8)} {p1 : Int} {r : Note × Int × Int × Bool} (h : r_look fuel p0 p1 = some r) : PC Try.prog 55 [vS p0, .d (.int .u64 p1)] (.tup [.d (.agg [.int .i64 r.1.Kind, .int .i64 r.1.Unit, .str r.1.Key, .bool r.1.Has, .str r.1.Text]), vI r.2.1, .d (.int .u64 r.2.2.1), vB r.2.2.2]) := by
  refine PC.of_SW Try.func55 rfl fun H => ?_
  unfold r_look at h
  refine SW.kp 258 H [0, 1] [(0, vS p0), (1, .d (.int .u64 p1))] (by kernel_rfl) <| SW.R 1 [(0, vS p0), (1, .d (.int .u64 p1)), (4, Z245)] <| SW.seq <| SW.S <| OWk.G 1 [(0, vS p0), (1, .d (.int .u64 p1)), (4, Z245), (15, vS p0)] <| OWk.G 1 [(0, vS p0), (1, .d (.int .u64 p1)), (4, Z245), (16, vI (p0.length : Int))] <| OWk.G 1 [(0, vS p0), (1, .d (.int .u64 p1)), (4, Z245), (17, Z307 p0)] <| OWk.E ?_
  refine SW.B ((p0.length : Int) == 0) (fun hc => ?_) (fun hc => ?_)
  · replace h := bif_t hc h
    refine SW.R 1 [(4, Z245), (5, vI 0), (6, .d (.int .u64 0)), (7, vB true)] <| SW.ret <| thenS_r ?_
    cases h
    exact EndQ.ret [] (by kernel_rfl) rfl
  · replace h := bif_f hc h
    refine SW.skip <| thenS_n <| SW.seq <| SW.S <| OWk.G 1 [(0, vS p0), (1, .d (.int .u64 p1)), (4, Z245), (19, vS p0)] ?_
    obtain ⟨b1, hx, h⟩ := bind_inv h
    refine OWk.O (d := some 20) [(0, vS p0), (1, .d (.int .u64 p1)), (4, Z245), (20, .d (.int .u8 (b1.toNat : Int)))] (BAt.indexS hx (by kernel_rfl)) <| OWk.G 1 [(0, vS p0), (1, .d (.int .u64 p1)), (4, Z245), (21, Z308 b1)] <| OWk.E ?_
    refine SW.B ((b1.toNat : Int) != 74) (fun hc => ?_) (fun hc => ?_)
    · replace h := bif_t hc h
      refine SW.R 1 [(4, Z245), (5, vI 0), (6, .d (.int .u64 0)), (7, vB false)] <| SW.ret <| thenS_r ?_
      cases h
      exact EndQ.ret [] (by kernel_rfl) rfl
    · replace h := bif_f hc h
      refine SW.skip <| thenS_n <| SW.seq <| SW.S <| OWk.G 1 [(0, vS p0), (1, .d (.int .u64 p1)), (4, Z245), (23, vS p0)] <| OWk.G 1 [(0, vS p0), (1, .d (.int .u64 p1)), (4, Z245), (24, vI (p0.length : Int))] <| OWk.G 1 [(0, vS p0), (1, .d (.int .u64 p1)), (4, Z245), (25, Z309 p0)] <| OWk.E ?_
      refine SW.B ((p0.length : Int) == 1) (fun hc => ?_) (fun hc => ?_)
      · replace h := bif_t hc h
        refine SW.R 1 [(4, Z245), (5, vI 0), (6, .d (.int .u64 0)), (7, vB true)] <| SW.ret <| thenS_r ?_
        cases h
        exact EndQ.ret [] (by kernel_rfl) rfl
      · replace h := bif_f hc h
        refine SW.skip <| thenS_n <| SW.S <| OWk.G 1 [(0, vS p0), (1, .d (.int .u64 p1)), (4, Z245), (27, vS p0)] ?_
        obtain ⟨b2, hx, h⟩ := bind_inv h
        refine OWk.O (d := some 28) [(0, vS p0), (1, .d (.int .u64 p1)), (4, Z245), (28, .d (.int .u8 (b2.toNat : Int)))] (BAt.indexS hx (by kernel_rfl)) <| OWk.G 3 [(0, vS p0), (1, .d (.int .u64 p1)), (4, Z310 b2)] <| OWk.E <| SW.seq <| SW.S <| OWk.G 4 [(0, vS p0), (1, .d (.int .u64 p1)), (4, Z310 b2), (34, Z311 b2)] <| OWk.M 4 (decide ((IntKind.wrap .i64 (b2.toNat : Int)) < 1)) (fun b => [(0, vS p0), (1, .d (.int .u64 p1)), (4, Z310 b2), (34, vB b)]) (fun b => [(0, vS p0), (1, .d (.int .u64 p1)), (4, Z310 b2), (38, vB (b || (decide ((IntKind.wrap .i64 (b2.toNat : Int)) > 7))))]) <| OWk.E ?_
        refine SW.B ((decide ((IntKind.wrap .i64 (b2.toNat : Int)) < 1)) || (decide ((IntKind.wrap .i64 (b2.toNat : Int)) > 7))) (fun hc => ?_) (fun hc => ?_)
        · replace h := bif_t hc h
          refine SW.R 1 [(4, Z310 b2), (5, vI 0), (6, .d (.int .u64 0)), (7, vB false)] <| SW.ret <| thenS_r ?_
          cases h
          exact EndQ.ret [] (by kernel_rfl) rfl
        · replace h := bif_f hc h
          refine SW.skip <| thenS_n <| SW.seq <| SW.S <| OWk.G 1 [(0, vS p0), (1, .d (.int .u64 p1)), (4, Z310 b2), (40, vS p0)] <| OWk.G 1 [(0, vS p0), (1, .d (.int .u64 p1)), (4, Z310 b2), (41, vI (p0.length : Int))] <| OWk.G 1 [(0, vS p0), (1, .d (.int .u64 p1)), (4, Z310 b2), (42, Z312 p0)] <| OWk.E ?_
          refine SW.B ((p0.length : Int) == 2) (fun hc => ?_) (fun hc => ?_)
          · replace h := bif_t hc h
            refine SW.R 1 [(4, Z310 b2), (5, vI 0), (6, .d (.int .u64 0)), (7, vB true)] <| SW.ret <| thenS_r ?_
            cases h
            exact EndQ.ret [] (by kernel_rfl) rfl
          · replace h := bif_f hc h
            refine SW.skip <| thenS_n ?_
            obtain ⟨jp4, hjjp4, h⟩ := letJ_inv h
            refine SW.jn 258 H [0, 1, 4] (fun (j3 : Unit) => [(0, vS p0), (1, .d (.int .u64 p1)), (4, Z310 b2)]) (fun v => jp4 v = some r) (fun j3 h => ?_) ?_
            · rw [hjjp4] at h
              refine SW.seq <| SW.S <| OWk.G 1 [(0, vS p0), (1, .d (.int .u64 p1)), (4, Z310 b2), (58, vS p0)] <| OWk.G 1 [(0, vS p0), (1, .d (.int .u64 p1)), (4, Z310 b2), (59, vI (p0.length : Int))] <| OWk.G 1 [(0, vS p0), (1, .d (.int .u64 p1)), (4, Z310 b2), (60, Z316 p0)] <| OWk.E ?_
              refine SW.B ((p0.length : Int) == 3) (fun hc => ?_) (fun hc => ?_)
              · replace h := bif_t hc h
                refine SW.R 1 [(4, Z310 b2), (5, vI 0), (6, .d (.int .u64 0)), (7, vB true)] <| SW.ret <| thenS_r ?_
                cases h
                exact EndQ.ret [] (by kernel_rfl) rfl
              · replace h := bif_f hc h
                refine SW.skip <| thenS_n <| SW.seq <| SW.regionT 9 (by kernel_rfl) (by kernel_rfl) <| OBk.G 1 [(0, vS p0), (1, .d (.int .u64 p1)), (4, Z310 b2), (62, vS p0)] ?_
                obtain ⟨b7, hx, h⟩ := bind_inv h
                refine OBk.O (d := some 63) [(0, vS p0), (1, .d (.int .u64 p1)), (4, Z310 b2), (63, .d (.int .u8 (b7.toNat : Int)))] (BAt.indexS hx (by kernel_rfl)) <| OBk.G 3 [(0, vS p0), (1, .d (.int .u64 p1)), (4, Z310 b2), (65, Z317 b7), (66, vS p0)] ?_
                obtain ⟨b8, hx, h⟩ := bind_inv h
                refine OBk.O (d := some 67) [(0, vS p0), (1, .d (.int .u64 p1)), (4, Z310 b2), (65, Z317 b7), (67, .d (.int .u8 (b8.toNat : Int)))] (BAt.indexS hx (by kernel_rfl)) <| OBk.G 3 [(0, vS p0), (1, .d (.int .u64 p1)), (4, Z310 b2), (69, Z318 b7 b8), (70, .loc 4 1)] <| OBk.done (by kernel_rfl) <| OWk.G 1 [(0, vS p0), (1, .d (.int .u64 p1)), (4, Z319 b2 b7 b8)] <| OWk.E <| SW.seq <| SW.S <| OWk.G 8 [(0, vS p0), (1, .d (.int .u64 p1)), (4, Z319 b2 b7 b8), (78, Z320 b2 b7 b8)] <| OWk.M 4 (!(((IntKind.wrap .i64 (b2.toNat : Int)) == 6) == ((IntKind.wrap .i64 ((IntKind.wrap .i64 (256 * (IntKind.wrap .i64 (b7.toNat : Int)))) + (IntKind.wrap .i64 (b8.toNat : Int)))) == 0))) (fun b => [(0, vS p0), (1, .d (.int .u64 p1)), (4, Z319 b2 b7 b8), (78, vB b)]) (fun b => [(0, vS p0), (1, .d (.int .u64 p1)), (4, Z319 b2 b7 b8), (82, vB (b || (decide ((IntKind.wrap .i64 ((IntKind.wrap .i64 (256 * (IntKind.wrap .i64 (b7.toNat : Int)))) + (IntKind.wrap .i64 (b8.toNat : Int)))) > 1000))))]) <| OWk.E ?_
                refine SW.B ((!(((IntKind.wrap .i64 (b2.toNat : Int)) == 6) == ((IntKind.wrap .i64 ((IntKind.wrap .i64 (256 * (IntKind.wrap .i64 (b7.toNat : Int)))) + (IntKind.wrap .i64 (b8.toNat : Int)))) == 0))) || (decide ((IntKind.wrap .i64 ((IntKind.wrap .i64 (256 * (IntKind.wrap .i64 (b7.toNat : Int)))) + (IntKind.wrap .i64 (b8.toNat : Int)))) > 1000))) (fun hc => ?_) (fun hc => ?_)
                · replace h := bif_t hc h
                  refine SW.R 1 [(4, Z319 b2 b7 b8), (5, vI 0), (6, .d (.int .u64 0)), (7, vB false)] <| SW.ret <| thenS_r ?_
                  cases h
                  exact EndQ.ret [] (by kernel_rfl) rfl
                · replace h := bif_f hc h
                  refine SW.skip <| thenS_n <| SW.seq <| SW.S <| OWk.G 1 [(0, vS p0), (1, .d (.int .u64 p1)), (4, Z319 b2 b7 b8), (84, vS p0)] <| OWk.G 1 [(0, vS p0), (1, .d (.int .u64 p1)), (4, Z319 b2 b7 b8), (85, vI (p0.length : Int))] <| OWk.G 1 [(0, vS p0), (1, .d (.int .u64 p1)), (4, Z319 b2 b7 b8), (86, Z321 p0)] <| OWk.E ?_
                  refine SW.B ((p0.length : Int) == 4) (fun hc => ?_) (fun hc => ?_)
                  · replace h := bif_t hc h
                    refine SW.R 1 [(4, Z319 b2 b7 b8), (5, vI 0), (6, .d (.int .u64 0)), (7, vB true)] <| SW.ret <| thenS_r ?_
                    cases h
                    exact EndQ.ret [] (by kernel_rfl) rfl
                  · replace h := bif_f hc h
                    refine SW.skip <| thenS_n <| SW.S <| OWk.G 4 [(0, vS p0), (1, .d (.int .u64 p1)), (4, Z319 b2 b7 b8), (91, Z322 b2)] <| OWk.M 4 ((IntKind.wrap .i64 (b2.toNat : Int)) == 2) (fun b => [(0, vS p0), (1, .d (.int .u64 p1)), (4, Z319 b2 b7 b8), (91, vB b)]) (fun b => [(0, vS p0), (1, .d (.int .u64 p1)), (4, Z319 b2 b7 b8), (95, vB (b || ((IntKind.wrap .i64 (b2.toNat : Int)) == 3)))]) <| OWk.G 1 [(0, vS p0), (1, .d (.int .u64 p1)), (4, Z319 b2 b7 b8), (8, Z323 b2)] <| OWk.E <| SW.S <| OWk.G 1 [(0, vS p0), (1, .d (.int .u64 p1)), (4, Z319 b2 b7 b8), (8, Z323 b2), (96, vS p0)] ?_
                    obtain ⟨b9, hx, h⟩ := bind_inv h
                    refine OWk.O (d := some 97) [(0, vS p0), (1, .d (.int .u64 p1)), (4, Z319 b2 b7 b8), (8, Z323 b2), (97, .d (.int .u8 (b9.toNat : Int)))] (BAt.indexS hx (by kernel_rfl)) <| OWk.G 2 [(0, vS p0), (1, .d (.int .u64 p1)), (4, Z319 b2 b7 b8), (8, Z323 b2), (9, Z324 b9)] <| OWk.E ?_
                    obtain ⟨jp11, hjjp11, h⟩ := letJ_inv h
                    refine SW.jn 258 H [0, 1, 4, 8, 9] (fun (j10 : Bool) => [(0, vS p0), (1, .d (.int .u64 p1)), (4, Z319 b2 b7 b8), (8, vB j10), (9, Z324 b9)]) (fun v => jp11 v = some r) (fun j10 h => ?_) ?_
                    · rw [hjjp11] at h
                      refine SW.seq <| SW.S <| OWk.G 1 [(0, vS p0), (1, .d (.int .u64 p1)), (4, Z319 b2 b7 b8), (8, vB j10), (9, Z324 b9), (117, vS p0)] <| OWk.G 1 [(0, vS p0), (1, .d (.int .u64 p1)), (4, Z319 b2 b7 b8), (8, vB j10), (9, Z324 b9), (118, vI (p0.length : Int))] <| OWk.G 4 [(0, vS p0), (1, .d (.int .u64 p1)), (4, Z319 b2 b7 b8), (8, vB j10), (9, Z324 b9), (122, Z327 p0 b9)] <| OWk.E ?_
                      refine SW.B (decide ((p0.length : Int) < (IntKind.wrap .i64 ((IntKind.wrap .i64 (5 + (IntKind.wrap .i64 (b9.toNat : Int)))) + 1)))) (fun hc => ?_) (fun hc => ?_)
                      · replace h := bif_t hc h
                        refine SW.R 1 [(4, Z319 b2 b7 b8), (5, vI 0), (6, .d (.int .u64 0)), (7, vB true)] <| SW.ret <| thenS_r ?_
                        cases h
                        exact EndQ.ret [] (by kernel_rfl) rfl
                      · replace h := bif_f hc h
                        refine SW.skip <| thenS_n <| SW.S <| OWk.G 3 [(0, vS p0), (1, .d (.int .u64 p1)), (4, Z319 b2 b7 b8), (8, vB j10), (9, Z324 b9), (124, vS p0), (126, Z328 b9)] ?_
                        obtain ⟨hk, h⟩ := chk_inv h
                        refine OWk.O (d := some 127) [(0, vS p0), (1, .d (.int .u64 p1)), (4, Z319 b2 b7 b8), (8, vB j10), (9, Z324 b9), (127, Z330 p0 b9)] (BAt.sliceS hk (by kernel_rfl)) <| OWk.G 2 [(0, vS p0), (1, .d (.int .u64 p1)), (4, Z329 b2 b7 b8 p0 b9), (8, vB j10), (9, Z324 b9)] <| OWk.E <| SW.R 1 [(0, vS p0), (1, .d (.int .u64 p1)), (4, Z329 b2 b7 b8 p0 b9), (8, vB j10), (10, Z328 b9)] ?_
                        obtain ⟨jp13, hjjp13, h⟩ := letJ_inv h
                        refine SW.jn 258 H [0, 1, 4, 10] (fun (j12 : Unit) => [(0, vS p0), (1, .d (.int .u64 p1)), (4, Z329 b2 b7 b8 p0 b9), (10, Z328 b9)]) (fun v => jp13 v = some r) (fun j12 h => ?_) ?_
                        · rw [hjjp13] at h
                          refine SW.S <| OWk.G 2 [(0, vS p0), (1, .d (.int .u64 p1)), (4, Z329 b2 b7 b8 p0 b9), (10, Z328 b9), (146, vS p0), (147, Z328 b9)] ?_
                          obtain ⟨b16, hx, h⟩ := bind_inv h
                          refine OWk.O (d := some 148) [(0, vS p0), (1, .d (.int .u64 p1)), (4, Z329 b2 b7 b8 p0 b9), (10, Z328 b9), (148, .d (.int .u8 (b16.toNat : Int)))] (BAt.indexS hx (by kernel_rfl)) <| OWk.G 3 [(0, vS p0), (1, .d (.int .u64 p1)), (4, Z333 b2 b7 b8 p0 b9 b16), (10, Z328 b9)] <| OWk.E <| SW.R 1 [(0, vS p0), (1, .d (.int .u64 p1)), (4, Z333 b2 b7 b8 p0 b9 b16), (10, Z328 b9), (11, vI 0)] ?_
                          obtain ⟨jp18, hjjp18, h⟩ := letJ_inv h
                          refine SW.jn 258 H [0, 1, 4, 10, 11] (fun (j17 : Int) => [(0, vS p0), (1, .d (.int .u64 p1)), (4, Z333 b2 b7 b8 p0 b9 b16), (10, Z328 b9), (11, vI j17)]) (fun v => jp18 v = some r) (fun j17 h => ?_) ?_
                          · rw [hjjp18] at h
                            obtain ⟨jp20, hjjp20, h⟩ := letJ_inv h
                            refine SW.jn 258 H [0, 1, 4, 10, 11] (fun (j19 : Int) => [(0, vS p0), (1, .d (.int .u64 p1)), (4, Z333 b2 b7 b8 p0 b9 b16), (10, Z328 b9), (11, vI j19)]) (fun v => jp20 v = some r) (fun j19 h => ?_) ?_
                            · rw [hjjp20] at h
                              refine SW.seq <| SW.S <| OWk.G 1 [(0, vS p0), (1, .d (.int .u64 p1)), (4, Z333 b2 b7 b8 p0 b9 b16), (10, Z328 b9), (11, vI j19), (156, vS p0)] <| OWk.G 1 [(0, vS p0), (1, .d (.int .u64 p1)), (4, Z333 b2 b7 b8 p0 b9 b16), (10, Z328 b9), (11, vI j19), (157, vI (p0.length : Int))] <| OWk.G 3 [(0, vS p0), (1, .d (.int .u64 p1)), (4, Z333 b2 b7 b8 p0 b9 b16), (10, Z328 b9), (11, vI j19), (160, Z334 p0 b9)] <| OWk.E ?_
                              refine SW.B ((p0.length : Int) == (IntKind.wrap .i64 ((IntKind.wrap .i64 (5 + (IntKind.wrap .i64 (b9.toNat : Int)))) + 1))) (fun hc => ?_) (fun hc => ?_)
                              · replace h := bif_t hc h
                                refine SW.R 1 [(4, Z333 b2 b7 b8 p0 b9 b16), (5, vI 0), (6, .d (.int .u64 0)), (7, vB true)] <| SW.ret <| thenS_r ?_
                                cases h
                                exact EndQ.ret [] (by kernel_rfl) rfl
                              · replace h := bif_f hc h
                                refine SW.skip <| thenS_n <| SW.seq <| SW.S <| OWk.G 3 [(0, vS p0), (1, .d (.int .u64 p1)), (4, Z333 b2 b7 b8 p0 b9 b16), (10, Z328 b9), (11, vI j19), (162, vS p0), (164, Z335 b9)] ?_
                                obtain ⟨b21, hx, h⟩ := bind_inv h
                                refine OWk.O (d := some 165) [(0, vS p0), (1, .d (.int .u64 p1)), (4, Z333 b2 b7 b8 p0 b9 b16), (10, Z328 b9), (11, vI j19), (165, .d (.int .u8 (b21.toNat : Int)))] (BAt.indexS hx (by kernel_rfl)) <| OWk.G 4 [(0, vS p0), (1, .d (.int .u64 p1)), (4, Z333 b2 b7 b8 p0 b9 b16), (10, Z328 b9), (11, vI j19), (169, Z336 b21 j19)] <| OWk.E ?_
                                refine SW.B (decide ((IntKind.wrap .i64 (256 * (IntKind.wrap .i64 (b21.toNat : Int)))) > j19)) (fun hc => ?_) (fun hc => ?_)
                                · replace h := bif_t hc h
                                  refine SW.R 1 [(4, Z333 b2 b7 b8 p0 b9 b16), (5, vI 0), (6, .d (.int .u64 0)), (7, vB false)] <| SW.ret <| thenS_r ?_
                                  cases h
                                  exact EndQ.ret [] (by kernel_rfl) rfl
                                · replace h := bif_f hc h
                                  refine SW.skip <| thenS_n <| SW.seq <| SW.S <| OWk.G 1 [(0, vS p0), (1, .d (.int .u64 p1)), (4, Z333 b2 b7 b8 p0 b9 b16), (10, Z328 b9), (11, vI j19), (171, vS p0)] <| OWk.G 1 [(0, vS p0), (1, .d (.int .u64 p1)), (4, Z333 b2 b7 b8 p0 b9 b16), (10, Z328 b9), (11, vI j19), (172, vI (p0.length : Int))] <| OWk.G 3 [(0, vS p0), (1, .d (.int .u64 p1)), (4, Z333 b2 b7 b8 p0 b9 b16), (10, Z328 b9), (11, vI j19), (175, Z337 p0 b9)] <| OWk.E ?_
                                  refine SW.B ((p0.length : Int) == (IntKind.wrap .i64 ((IntKind.wrap .i64 (5 + (IntKind.wrap .i64 (b9.toNat : Int)))) + 2))) (fun hc => ?_) (fun hc => ?_)
                                  · replace h := bif_t hc h
                                    refine SW.R 1 [(4, Z333 b2 b7 b8 p0 b9 b16), (5, vI 0), (6, .d (.int .u64 0)), (7, vB true)] <| SW.ret <| thenS_r ?_
                                    cases h
                                    exact EndQ.ret [] (by kernel_rfl) rfl
                                  · replace h := bif_f hc h
                                    refine SW.skip <| thenS_n <| SW.seq <| SW.regionT 12 (by kernel_rfl) (by kernel_rfl) <| OBk.G 3 [(0, vS p0), (1, .d (.int .u64 p1)), (4, Z333 b2 b7 b8 p0 b9 b16), (10, Z328 b9), (11, vI j19), (177, vS p0), (179, Z335 b9)] ?_
                                    obtain ⟨b22, hx, h⟩ := bind_inv h
                                    refine OBk.O (d := some 180) [(0, vS p0), (1, .d (.int .u64 p1)), (4, Z333 b2 b7 b8 p0 b9 b16), (10, Z328 b9), (11, vI j19), (180, .d (.int .u8 (b22.toNat : Int)))] (BAt.indexS hx (by kernel_rfl)) <| OBk.G 5 [(0, vS p0), (1, .d (.int .u64 p1)), (4, Z333 b2 b7 b8 p0 b9 b16), (10, Z328 b9), (11, vI j19), (182, Z317 b22), (183, vS p0), (185, Z338 b9)] ?_
                                    obtain ⟨b23, hx, h⟩ := bind_inv h
                                    refine OBk.O (d := some 186) [(0, vS p0), (1, .d (.int .u64 p1)), (4, Z333 b2 b7 b8 p0 b9 b16), (10, Z328 b9), (11, vI j19), (182, Z317 b22), (186, .d (.int .u8 (b23.toNat : Int)))] (BAt.indexS hx (by kernel_rfl)) <| OBk.G 2 [(0, vS p0), (1, .d (.int .u64 p1)), (4, Z333 b2 b7 b8 p0 b9 b16), (10, Z328 b9), (11, vI j19), (188, Z318 b22 b23)] <| OBk.done (by kernel_rfl) <| OWk.G 1 [(0, vS p0), (1, .d (.int .u64 p1)), (4, Z333 b2 b7 b8 p0 b9 b16), (10, Z328 b9), (11, vI j19), (12, Z318 b22 b23)] <| OWk.E ?_
                                    obtain ⟨jp25, hjjp25, h⟩ := letJ_inv h
                                    refine SW.jn 258 H [0, 1, 4, 10, 12] (fun (j24 : Unit) => [(0, vS p0), (1, .d (.int .u64 p1)), (4, Z333 b2 b7 b8 p0 b9 b16), (10, Z328 b9), (12, Z318 b22 b23)]) (fun v => jp25 v = some r) (fun j24 h => ?_) ?_
                                    · rw [hjjp25] at h
                                      refine SW.R 1 [(0, vS p0), (1, .d (.int .u64 p1)), (4, Z333 b2 b7 b8 p0 b9 b16), (10, Z341 b9), (12, Z318 b22 b23)] <| SW.seq <| SW.S <| OWk.G 1 [(0, vS p0), (1, .d (.int .u64 p1)), (4, Z333 b2 b7 b8 p0 b9 b16), (10, Z341 b9), (12, Z318 b22 b23), (204, vS p0)] <| OWk.G 1 [(0, vS p0), (1, .d (.int .u64 p1)), (4, Z333 b2 b7 b8 p0 b9 b16), (10, Z341 b9), (12, Z318 b22 b23), (205, vI (p0.length : Int))] <| OWk.G 4 [(0, vS p0), (1, .d (.int .u64 p1)), (4, Z333 b2 b7 b8 p0 b9 b16), (10, Z341 b9), (12, Z318 b22 b23), (209, Z342 p0 b9 b22 b23)] <| OWk.E ?_
                                      refine SW.B (decide ((p0.length : Int) < (IntKind.wrap .i64 ((IntKind.wrap .i64 ((IntKind.wrap .i64 (5 + (IntKind.wrap .i64 (b9.toNat : Int)))) + 3)) + (IntKind.wrap .i64 ((IntKind.wrap .i64 (256 * (IntKind.wrap .i64 (b22.toNat : Int)))) + (IntKind.wrap .i64 (b23.toNat : Int)))))))) (fun hc => ?_) (fun hc => ?_)
                                      · replace h := bif_t hc h
                                        refine SW.R 1 [(4, Z333 b2 b7 b8 p0 b9 b16), (5, vI 0), (6, .d (.int .u64 0)), (7, vB true)] <| SW.ret <| thenS_r ?_
                                        cases h
                                        exact EndQ.ret [] (by kernel_rfl) rfl
                                      · replace h := bif_f hc h
                                        refine SW.skip <| thenS_n <| SW.S <| OWk.G 5 [(0, vS p0), (1, .d (.int .u64 p1)), (4, Z333 b2 b7 b8 p0 b9 b16), (10, Z341 b9), (12, Z318 b22 b23), (211, vS p0), (212, Z341 b9), (215, Z343 b9 b22 b23)] ?_
                                        obtain ⟨hk, h⟩ := chk_inv h
                                        refine OWk.O (d := some 216) [(0, vS p0), (1, .d (.int .u64 p1)), (4, Z333 b2 b7 b8 p0 b9 b16), (10, Z341 b9), (12, Z318 b22 b23), (216, Z345 p0 b9 b22 b23)] (BAt.sliceS hk (by kernel_rfl)) <| OWk.G 2 [(0, vS p0), (1, .d (.int .u64 p1)), (4, Z344 b2 b7 b8 p0 b9 b16 b22 b23), (10, Z341 b9), (12, Z318 b22 b23)] <| OWk.E <| SW.S <| OWk.G 5 [(0, vS p0), (4, Z344 b2 b7 b8 p0 b9 b16 b22 b23), (10, Z341 b9), (12, Z318 b22 b23), (218, .d (.int .u64 p1)), (219, vS p0), (222, Z343 b9 b22 b23)] ?_
                                        obtain ⟨hk, h⟩ := chk_inv h
                                        refine OWk.O (d := some 223) [(0, vS p0), (4, Z344 b2 b7 b8 p0 b9 b16 b22 b23), (10, Z341 b9), (12, Z318 b22 b23), (218, .d (.int .u64 p1)), (223, Z361 p0 b9 b22 b23)] (BAt.sliceS hk (by kernel_rfl)) ?_
                                        obtain ⟨r26, hr, h⟩ := bind_inv h
                                        refine OWk.C0 (some 224) [(0, vS p0), (4, Z344 b2 b7 b8 p0 b9 b16 b22 b23), (10, Z341 b9), (12, Z318 b22 b23), (224, .d (.int .u64 r26))] (r_Sum_ok hr) <| OWk.G 1 [(0, vS p0), (4, Z344 b2 b7 b8 p0 b9 b16 b22 b23), (6, .d (.int .u64 r26)), (10, Z341 b9), (12, Z318 b22 b23)] <| OWk.E <| SW.S <| OWk.G 1 [(0, vS p0), (4, Z344 b2 b7 b8 p0 b9 b16 b22 b23), (6, .d (.int .u64 r26)), (10, Z341 b9), (12, Z318 b22 b23), (225, .d (.int .u64 r26))] ?_
                                        obtain ⟨r27, hr, h⟩ := bind_inv h
                                        refine OWk.C0 (some 226) [(0, vS p0), (4, Z344 b2 b7 b8 p0 b9 b16 b22 b23), (6, .d (.int .u64 r26)), (10, Z341 b9), (12, Z318 b22 b23), (226, vS r27)] (r_eight_ok hr) <| OWk.G 1 [(0, vS p0), (4, Z344 b2 b7 b8 p0 b9 b16 b22 b23), (6, .d (.int .u64 r26)), (10, Z341 b9), (12, Z318 b22 b23), (13, vS r27)] <| OWk.E <| SW.seq <| SW.R 1 [(0, vS p0), (4, Z344 b2 b7 b8 p0 b9 b16 b22 b23), (6, .d (.int .u64 r26)), (10, Z341 b9), (12, Z318 b22 b23), (13, vS r27), (14, vI 0)] <| SW.block ?_
                                        obtain ⟨z31, hit, h⟩ := bind_inv h
                                        refine SW.it 258 H [0, 4, 6, 10, 12, 13, 14] (fun y28 => [(0, vS p0), (4, .box [vI y28.1, vI y28.2.1, vS y28.2.2.1, vB y28.2.2.2.1, vS y28.2.2.2.2.1]), (6, .d (.int .u64 y28.2.2.2.2.2.1)), (10, Z341 b9), (12, Z318 b22 b23), (13, vS r27), (14, vI y28.2.2.2.2.2.2)]) (fun b e s => ((∃ v32, b = (.inl v32) ∧ (e = .exit 0 ∧ s = (sp 258 [(4, .box [vI v32.1, vI v32.2.1, vS v32.2.2.1, vB v32.2.2.2.1, vS v32.2.2.2.2.1]), (6, .d (.int .u64 v32.2.2.2.2.2)), (10, Z341 b9), (12, Z318 b22 b23)] H))) ∨ (∃ r33, b = (.inr r33) ∧ (e = .ret ∧ EndQ Try.prog Try.f55.results.toList H (.tup [.d (.agg [.int .i64 r33.1.Kind, .int .i64 r33.1.Unit, .str r33.1.Key, .bool r33.1.Has, .str r33.1.Text]), vI r33.2.1, .d (.int .u64 r33.2.2.1), vB r33.2.2.2]) .ret s)))) hit (by kernel_rfl) (fun y28 o h => ?_) ?_
                                        · unfold r_look_l1 at h
                                          refine SW.seq <| SW.R 1 [(0, vS p0), (4, Z366 y28), (6, Z367 y28), (10, Z341 b9), (12, Z318 b22 b23), (13, vS r27), (14, vI y28.2.2.2.2.2.2), (228, Z368 y28)] ?_
                                          refine SW.B (decide (y28.2.2.2.2.2.2 < 8)) (fun hc => ?_) (fun hc => ?_)
                                          · replace h := bif_t hc h
                                            refine SW.skip <| thenS_n <| SW.seq <| SW.block <| SW.seq <| SW.S <| OWk.G 6 [(0, vS p0), (4, Z366 y28), (6, Z367 y28), (10, Z341 b9), (12, Z318 b22 b23), (13, vS r27), (14, vI y28.2.2.2.2.2.2), (235, Z369 b9 b22 b23 y28), (236, vS p0)] <| OWk.G 1 [(0, vS p0), (4, Z366 y28), (6, Z367 y28), (10, Z341 b9), (12, Z318 b22 b23), (13, vS r27), (14, vI y28.2.2.2.2.2.2), (235, Z369 b9 b22 b23 y28), (237, vI (p0.length : Int))] <| OWk.G 1 [(0, vS p0), (4, Z366 y28), (6, Z367 y28), (10, Z341 b9), (12, Z318 b22 b23), (13, vS r27), (14, vI y28.2.2.2.2.2.2), (238, Z370 b9 b22 b23 y28 p0)] <| OWk.E ?_
                                            refine SW.B ((IntKind.wrap .i64 ((IntKind.wrap .i64 ((IntKind.wrap .i64 ((IntKind.wrap .i64 (5 + (IntKind.wrap .i64 (b9.toNat : Int)))) + 3)) + (IntKind.wrap .i64 ((IntKind.wrap .i64 (256 * (IntKind.wrap .i64 (b22.toNat : Int)))) + (IntKind.wrap .i64 (b23.toNat : Int)))))) + y28.2.2.2.2.2.2)) == (p0.length : Int)) (fun hc => ?_) (fun hc => ?_)
                                            · replace h := bif_t hc h
                                              refine SW.R 1 [(4, Z366 y28), (5, vI 0), (6, .d (.int .u64 0)), (7, vB true)] <| SW.ret <| thenS_r <| blockS_r <| thenS_r ?_
                                              cases h
                                              refine thenS_r ?_
                                              exact ⟨_, rfl, .inr (⟨((⟨y28.1, y28.2.1, y28.2.2.1, y28.2.2.2.1, y28.2.2.2.2.1⟩ : Note), 0, 0, true), rfl, rfl, EndQ.ret [] (by kernel_rfl) rfl⟩)⟩
                                            · replace h := bif_f hc h
                                              refine SW.skip <| thenS_n <| SW.seq <| SW.regionDk (by kernel_rfl) (by kernel_rfl) <| OBk.G 6 [(0, vS p0), (4, Z366 y28), (6, Z367 y28), (10, Z341 b9), (12, Z318 b22 b23), (13, vS r27), (14, vI y28.2.2.2.2.2.2), (240, vS p0), (245, Z369 b9 b22 b23 y28)] ?_
                                              obtain ⟨b29, hx, h⟩ := bind_inv h
                                              refine OBk.O (d := some 246) [(0, vS p0), (4, Z366 y28), (6, Z367 y28), (10, Z341 b9), (12, Z318 b22 b23), (13, vS r27), (14, vI y28.2.2.2.2.2.2), (246, .d (.int .u8 (b29.toNat : Int)))] (BAt.indexS hx (by kernel_rfl)) <| OBk.G 2 [(0, vS p0), (4, Z366 y28), (6, Z367 y28), (10, Z341 b9), (12, Z318 b22 b23), (13, vS r27), (14, vI y28.2.2.2.2.2.2), (246, Z364 b29), (247, vS r27), (248, vI y28.2.2.2.2.2.2)] ?_
                                              obtain ⟨b30, hx, h⟩ := bind_inv h
                                              refine OBk.O (d := some 249) [(0, vS p0), (4, Z366 y28), (6, Z367 y28), (10, Z341 b9), (12, Z318 b22 b23), (13, vS r27), (14, vI y28.2.2.2.2.2.2), (246, Z364 b29), (249, .d (.int .u8 (b30.toNat : Int)))] (BAt.indexS hx (by kernel_rfl)) <| OBk.G 1 [(0, vS p0), (4, Z366 y28), (6, Z367 y28), (10, Z341 b9), (12, Z318 b22 b23), (13, vS r27), (14, vI y28.2.2.2.2.2.2), (250, Z365 b29 b30)] <| OBk.done (by kernel_rfl) <| thenS_n ?_
                                              refine SW.B ((b29.toNat : Int) != (b30.toNat : Int)) (fun hc => ?_) (fun hc => ?_)
                                              · replace h := bif_t hc h
                                                refine SW.R 1 [(4, Z366 y28), (5, vI 0), (6, .d (.int .u64 0)), (7, vB false)] <| SW.ret <| blockS_r <| thenS_r ?_
                                                cases h
                                                refine thenS_r ?_
                                                exact ⟨_, rfl, .inr (⟨((⟨y28.1, y28.2.1, y28.2.2.1, y28.2.2.2.1, y28.2.2.2.2.1⟩ : Note), 0, 0, false), rfl, rfl, EndQ.ret [] (by kernel_rfl) rfl⟩)⟩
                                              · replace h := bif_f hc h
                                                refine SW.skip <| blockS_n <| thenS_n <| SW.regionK <| OWk.G 3 [(0, vS p0), (4, Z366 y28), (6, Z367 y28), (10, Z341 b9), (12, Z318 b22 b23), (13, vS r27), (14, Z371 y28)] <| OWk.D ?_
                                                cases h
                                                exact ⟨(y28.1, y28.2.1, y28.2.2.1, y28.2.2.2.1, y28.2.2.2.2.1, y28.2.2.2.2.2.1, (IntKind.wrap .i64 (y28.2.2.2.2.2.2 + 1))), rfl, by kernel_rfl⟩
                                          · replace h := bif_f hc h
                                            refine SW.K [(4, Z366 y28), (6, Z367 y28), (10, Z341 b9), (12, Z318 b22 b23)] <| SW.exit <| thenS_e ?_
                                            cases h
                                            refine thenS_e ?_
                                            exact ⟨_, rfl, .inl ⟨(y28.1, y28.2.1, y28.2.2.1, y28.2.2.2.1, y28.2.2.2.2.1, y28.2.2.2.2.2.1), rfl, rfl, rfl⟩⟩
                                        · rintro _ _ (⟨v32, rfl, rfl, rfl⟩ | ⟨r33, rfl, rfl, hE⟩)
                                          · replace h := sum_l h
                                            refine blockS_hit <| thenS_n <| SW.R 1 [(4, Z372 v32), (5, Z373 b9 b22 b23), (6, Z374 v32), (7, vB false)] <| SW.ret ?_
                                            cases h
                                            exact EndQ.ret [] (by kernel_rfl) rfl
                                          · replace h := sum_r h
                                            refine blockS_r <| thenS_r ?_
                                            cases h
                                            exact hE
                                    · refine SW.S <| OWk.G 4 [(0, vS p0), (1, .d (.int .u64 p1)), (4, Z333 b2 b7 b8 p0 b9 b16), (10, Z328 b9), (12, Z318 b22 b23), (192, Z339 b22 b23 j19)] ?_
                                      refine OWk.case (decide ((IntKind.wrap .i64 ((IntKind.wrap .i64 (256 * (IntKind.wrap .i64 (b22.toNat : Int)))) + (IntKind.wrap .i64 (b23.toNat : Int)))) > j19)) (fun b => (sp 258 [(0, vS p0), (1, .d (.int .u64 p1)), (4, Z333 b2 b7 b8 p0 b9 b16), (10, Z328 b9), (12, Z318 b22 b23), (192, vB b)] H)) (by kernel_rfl) (fun hc => ?_) (fun hc => ?_)
                                      · replace h := bif_t hc h
                                        refine OWk.G 8 [(0, vS p0), (1, .d (.int .u64 p1)), (4, Z333 b2 b7 b8 p0 b9 b16), (10, Z328 b9), (12, Z318 b22 b23), (200, vB true)] <| OWk.E <| SW.condT (by kernel_rfl) <| SW.R 1 [(4, Z333 b2 b7 b8 p0 b9 b16), (5, vI 0), (6, .d (.int .u64 0)), (7, vB false)] <| SW.ret <| thenS_r ?_
                                        cases h
                                        exact EndQ.ret [] (by kernel_rfl) rfl
                                      · replace h := bif_f hc h
                                        refine OWk.G 4 [(0, vS p0), (1, .d (.int .u64 p1)), (4, Z333 b2 b7 b8 p0 b9 b16), (10, Z328 b9), (12, Z318 b22 b23), (192, vB false), (196, Z314 b2)] ?_
                                        refine OWk.case ((IntKind.wrap .i64 (b2.toNat : Int)) == 6) (fun b => (sp 258 [(0, vS p0), (1, .d (.int .u64 p1)), (4, Z333 b2 b7 b8 p0 b9 b16), (10, Z328 b9), (12, Z318 b22 b23), (192, vB false), (196, vB b)] H)) (by kernel_rfl) (fun hc => ?_) (fun hc => ?_)
                                        · replace h := bif_t hc h
                                          refine OWk.G 4 [(0, vS p0), (1, .d (.int .u64 p1)), (4, Z333 b2 b7 b8 p0 b9 b16), (10, Z328 b9), (12, Z318 b22 b23), (200, Z340 b22 b23)] <| OWk.E ?_
                                          refine SW.B ((IntKind.wrap .i64 ((IntKind.wrap .i64 (256 * (IntKind.wrap .i64 (b22.toNat : Int)))) + (IntKind.wrap .i64 (b23.toNat : Int)))) == 0) (fun hc => ?_) (fun hc => ?_)
                                          · replace h := bif_t hc h
                                            refine SW.R 1 [(4, Z333 b2 b7 b8 p0 b9 b16), (5, vI 0), (6, .d (.int .u64 0)), (7, vB false)] <| SW.ret <| thenS_r ?_
                                            cases h
                                            exact EndQ.ret [] (by kernel_rfl) rfl
                                          · replace h := bif_f hc h
                                            refine SW.skip ?_
                                            exact ⟨(), [], by kernel_rfl, h⟩
                                        · replace h := bif_f hc h
                                          refine OWk.G 4 [(0, vS p0), (1, .d (.int .u64 p1)), (4, Z333 b2 b7 b8 p0 b9 b16), (10, Z328 b9), (12, Z318 b22 b23), (200, vB false)] <| OWk.E <| SW.condF (by kernel_rfl) <| SW.skip ?_
                                          exact ⟨(), [], by kernel_rfl, h⟩
                            · refine SW.R 1 [(0, vS p0), (1, .d (.int .u64 p1)), (4, Z333 b2 b7 b8 p0 b9 b16), (10, Z328 b9), (11, vI j17), (155, Z314 b2)] ?_
                              refine SW.B ((IntKind.wrap .i64 (b2.toNat : Int)) == 6) (fun hc => ?_) (fun hc => ?_)
                              · replace h := bif_t hc h
                                refine SW.regionK <| OWk.G 1 [(0, vS p0), (1, .d (.int .u64 p1)), (4, Z333 b2 b7 b8 p0 b9 b16), (10, Z328 b9), (11, vI 40)] <| OWk.D ?_
                                exact ⟨40, [], by kernel_rfl, h⟩
                              · replace h := bif_f hc h
                                refine SW.skip ?_
                                exact ⟨j17, [], by kernel_rfl, h⟩
                          · refine SW.R 1 [(0, vS p0), (1, .d (.int .u64 p1)), (4, Z333 b2 b7 b8 p0 b9 b16), (10, Z328 b9), (11, vI 0), (152, Z332 b16)] ?_
                            refine SW.B ((b16.toNat : Int) == 1) (fun hc => ?_) (fun hc => ?_)
                            · replace h := bif_t hc h
                              refine SW.regionK <| OWk.G 1 [(0, vS p0), (1, .d (.int .u64 p1)), (4, Z333 b2 b7 b8 p0 b9 b16), (10, Z328 b9), (11, vI 4000)] <| OWk.D ?_
                              exact ⟨4000, [], by kernel_rfl, h⟩
                            · replace h := bif_f hc h
                              refine SW.skip ?_
                              exact ⟨0, [], by kernel_rfl, h⟩
                        · refine SW.S <| OWk.G 2 [(0, vS p0), (1, .d (.int .u64 p1)), (4, Z329 b2 b7 b8 p0 b9), (8, vB j10), (10, Z328 b9), (131, vS p0), (132, Z328 b9)] ?_
                          obtain ⟨b14, hx, h⟩ := bind_inv h
                          refine OWk.O (d := some 133) [(0, vS p0), (1, .d (.int .u64 p1)), (4, Z329 b2 b7 b8 p0 b9), (8, vB j10), (10, Z328 b9), (133, .d (.int .u8 (b14.toNat : Int)))] (BAt.indexS hx (by kernel_rfl)) <| OWk.G 2 [(0, vS p0), (1, .d (.int .u64 p1)), (4, Z329 b2 b7 b8 p0 b9), (8, vB j10), (10, Z328 b9), (135, Z331 b14)] ?_
                          refine OWk.case (decide ((b14.toNat : Int) > 1)) (fun b => (sp 258 [(0, vS p0), (1, .d (.int .u64 p1)), (4, Z329 b2 b7 b8 p0 b9), (8, vB j10), (10, Z328 b9), (135, vB b)] H)) (by kernel_rfl) (fun hc => ?_) (fun hc => ?_)
                          · replace h := bif_t hc h
                            refine OWk.G 9 [(0, vS p0), (1, .d (.int .u64 p1)), (4, Z329 b2 b7 b8 p0 b9), (10, Z328 b9), (144, vB true)] <| OWk.E <| SW.condT (by kernel_rfl) <| SW.R 1 [(4, Z329 b2 b7 b8 p0 b9), (5, vI 0), (6, .d (.int .u64 0)), (7, vB false)] <| SW.ret <| thenS_r ?_
                            cases h
                            exact EndQ.ret [] (by kernel_rfl) rfl
                          · replace h := bif_f hc h
                            refine OWk.G 2 [(0, vS p0), (1, .d (.int .u64 p1)), (4, Z329 b2 b7 b8 p0 b9), (8, vB j10), (10, Z328 b9), (135, vB false), (136, vS p0), (137, Z328 b9)] ?_
                            obtain ⟨b15, hx, h⟩ := bind_inv h
                            refine OWk.O (d := some 138) [(0, vS p0), (1, .d (.int .u64 p1)), (4, Z329 b2 b7 b8 p0 b9), (8, vB j10), (10, Z328 b9), (135, vB false), (138, .d (.int .u8 (b15.toNat : Int)))] (BAt.indexS hx (by kernel_rfl)) <| OWk.G 2 [(0, vS p0), (1, .d (.int .u64 p1)), (4, Z329 b2 b7 b8 p0 b9), (8, vB j10), (10, Z328 b9), (135, vB false), (140, Z332 b15)] ?_
                            refine OWk.case ((b15.toNat : Int) == 1) (fun b => (sp 258 [(0, vS p0), (1, .d (.int .u64 p1)), (4, Z329 b2 b7 b8 p0 b9), (8, vB j10), (10, Z328 b9), (135, vB false), (140, vB b)] H)) (by kernel_rfl) (fun hc => ?_) (fun hc => ?_)
                            · replace h := bif_t hc h
                              refine OWk.G 4 [(0, vS p0), (1, .d (.int .u64 p1)), (4, Z329 b2 b7 b8 p0 b9), (10, Z328 b9), (144, vB (!j10))] <| OWk.E ?_
                              refine SW.B (!j10) (fun hc => ?_) (fun hc => ?_)
                              · replace h := bif_t hc h
                                refine SW.R 1 [(4, Z329 b2 b7 b8 p0 b9), (5, vI 0), (6, .d (.int .u64 0)), (7, vB false)] <| SW.ret <| thenS_r ?_
                                cases h
                                exact EndQ.ret [] (by kernel_rfl) rfl
                              · replace h := bif_f hc h
                                refine SW.skip ?_
                                exact ⟨(), [], by kernel_rfl, h⟩
                            · replace h := bif_f hc h
                              refine OWk.G 4 [(0, vS p0), (1, .d (.int .u64 p1)), (4, Z329 b2 b7 b8 p0 b9), (10, Z328 b9), (144, vB false)] <| OWk.E <| SW.condF (by kernel_rfl) <| SW.skip ?_
                              exact ⟨(), [], by kernel_rfl, h⟩
                    · refine SW.S <| OWk.G 2 [(0, vS p0), (1, .d (.int .u64 p1)), (4, Z319 b2 b7 b8), (8, Z323 b2), (9, Z324 b9), (100, Z323 b2)] ?_
                      refine OWk.case (((IntKind.wrap .i64 (b2.toNat : Int)) == 2) || ((IntKind.wrap .i64 (b2.toNat : Int)) == 3)) (fun b => (sp 258 [(0, vS p0), (1, .d (.int .u64 p1)), (4, Z319 b2 b7 b8), (8, vB b), (9, Z324 b9), (100, vB b)] H)) (by kernel_rfl) (fun hc => ?_) (fun hc => ?_)
                      · replace h := bif_t hc h
                        refine OWk.G 3 [(0, vS p0), (1, .d (.int .u64 p1)), (4, Z319 b2 b7 b8), (8, vB true), (9, Z324 b9), (100, vB true), (103, Z311 b9)] ?_
                        refine OWk.case (decide ((IntKind.wrap .i64 (b9.toNat : Int)) < 1)) (fun b => (sp 258 [(0, vS p0), (1, .d (.int .u64 p1)), (4, Z319 b2 b7 b8), (8, vB true), (9, Z324 b9), (100, vB true), (103, vB b)] H)) (by kernel_rfl) (fun hc => ?_) (fun hc => ?_)
                        · replace h := bif_t hc h
                          refine OWk.G 12 [(0, vS p0), (1, .d (.int .u64 p1)), (4, Z319 b2 b7 b8), (8, vB true), (9, Z324 b9), (115, vB true)] <| OWk.E <| SW.condT (by kernel_rfl) <| SW.R 1 [(4, Z319 b2 b7 b8), (5, vI 0), (6, .d (.int .u64 0)), (7, vB false)] <| SW.ret <| thenS_r ?_
                          cases h
                          exact EndQ.ret [] (by kernel_rfl) rfl
                        · replace h := bif_f hc h
                          refine OWk.G 5 [(0, vS p0), (1, .d (.int .u64 p1)), (4, Z319 b2 b7 b8), (8, vB true), (9, Z324 b9), (108, Z325 b9)] <| OWk.M 7 (decide ((IntKind.wrap .i64 (b9.toNat : Int)) > 40)) (fun b => [(0, vS p0), (1, .d (.int .u64 p1)), (4, Z319 b2 b7 b8), (8, vB true), (9, Z324 b9), (108, vB b)]) (fun b => [(0, vS p0), (1, .d (.int .u64 p1)), (4, Z319 b2 b7 b8), (8, vB true), (9, Z324 b9), (115, vB (b || false))]) <| OWk.E ?_
                          refine SW.B ((decide ((IntKind.wrap .i64 (b9.toNat : Int)) > 40)) || false) (fun hc => ?_) (fun hc => ?_)
                          · replace h := bif_t hc h
                            refine SW.R 1 [(4, Z319 b2 b7 b8), (5, vI 0), (6, .d (.int .u64 0)), (7, vB false)] <| SW.ret <| thenS_r ?_
                            cases h
                            exact EndQ.ret [] (by kernel_rfl) rfl
                          · replace h := bif_f hc h
                            refine SW.skip ?_
                            exact ⟨true, [], by kernel_rfl, h⟩
                      · replace h := bif_f hc h
                        refine OWk.G 15 [(0, vS p0), (1, .d (.int .u64 p1)), (4, Z319 b2 b7 b8), (8, vB false), (9, Z324 b9), (115, Z326 b9)] <| OWk.E ?_
                        refine SW.B ((IntKind.wrap .i64 (b9.toNat : Int)) != 0) (fun hc => ?_) (fun hc => ?_)
                        · replace h := bif_t hc h
                          refine SW.R 1 [(4, Z319 b2 b7 b8), (5, vI 0), (6, .d (.int .u64 0)), (7, vB false)] <| SW.ret <| thenS_r ?_
                          cases h
                          exact EndQ.ret [] (by kernel_rfl) rfl
                        · replace h := bif_f hc h
                          refine SW.skip ?_
                          exact ⟨false, [], by kernel_rfl, h⟩
            · refine SW.S <| OWk.G 1 [(0, vS p0), (1, .d (.int .u64 p1)), (4, Z310 b2), (44, vS p0)] ?_
              obtain ⟨b5, hx, h⟩ := bind_inv h
              refine OWk.O (d := some 45) [(0, vS p0), (1, .d (.int .u64 p1)), (4, Z310 b2), (45, .d (.int .u8 (b5.toNat : Int)))] (BAt.indexS hx (by kernel_rfl)) <| OWk.G 2 [(0, vS p0), (1, .d (.int .u64 p1)), (4, Z310 b2), (47, Z313 b5)] ?_
              refine OWk.case (decide ((b5.toNat : Int) > 3)) (fun b => (sp 258 [(0, vS p0), (1, .d (.int .u64 p1)), (4, Z310 b2), (47, vB b)] H)) (by kernel_rfl) (fun hc => ?_) (fun hc => ?_)
              · replace h := bif_t hc h
                refine OWk.G 9 [(0, vS p0), (1, .d (.int .u64 p1)), (4, Z310 b2), (56, vB true)] <| OWk.E <| SW.condT (by kernel_rfl) <| SW.R 1 [(4, Z310 b2), (5, vI 0), (6, .d (.int .u64 0)), (7, vB false)] <| SW.ret <| thenS_r ?_
                cases h
                exact EndQ.ret [] (by kernel_rfl) rfl
              · replace h := bif_f hc h
                refine OWk.G 4 [(0, vS p0), (1, .d (.int .u64 p1)), (4, Z310 b2), (47, vB false), (51, Z314 b2)] ?_
                refine OWk.case ((IntKind.wrap .i64 (b2.toNat : Int)) == 6) (fun b => (sp 258 [(0, vS p0), (1, .d (.int .u64 p1)), (4, Z310 b2), (47, vB false), (51, vB b)] H)) (by kernel_rfl) (fun hc => ?_) (fun hc => ?_)
                · replace h := bif_t hc h
                  refine OWk.G 1 [(0, vS p0), (1, .d (.int .u64 p1)), (4, Z310 b2), (47, vB false), (51, vB true), (52, vS p0)] ?_
                  obtain ⟨b6, hx, h⟩ := bind_inv h
                  refine OWk.O (d := some 53) [(0, vS p0), (1, .d (.int .u64 p1)), (4, Z310 b2), (47, vB false), (51, vB true), (53, .d (.int .u8 (b6.toNat : Int)))] (BAt.indexS hx (by kernel_rfl)) <| OWk.G 3 [(0, vS p0), (1, .d (.int .u64 p1)), (4, Z310 b2), (56, Z315 b6)] <| OWk.E ?_
                  refine SW.B ((b6.toNat : Int) != 0) (fun hc => ?_) (fun hc => ?_)
                  · replace h := bif_t hc h
                    refine SW.R 1 [(4, Z310 b2), (5, vI 0), (6, .d (.int .u64 0)), (7, vB false)] <| SW.ret <| thenS_r ?_
                    cases h
                    exact EndQ.ret [] (by kernel_rfl) rfl
                  · replace h := bif_f hc h
                    refine SW.skip ?_
                    exact ⟨(), [], by kernel_rfl, h⟩
                · replace h := bif_f hc h
                  refine OWk.G 5 [(0, vS p0), (1, .d (.int .u64 p1)), (4, Z310 b2), (56, vB false)] <| OWk.E <| SW.condF (by kernel_rfl) <| SW.skip ?_
                  exact ⟨(), [], by kernel_rfl, h⟩
def r_Decode_l1 (fuel : Nat) (p0 : (List UInt8)) (y1 : (List Note) × Int × Int) : Option (((List Note) × Int × Int) ⊕ (((List Note) × Int × Int) ⊕ (((List Note) × Int × Bool × Int × Int)))) :=
  bif (decide (y1.2.1 < (p0.length : Int))) then
    chk (slOk p0 y1.2.1 (p0.length : Int)) <|
    (r_look fuel (sl p0 y1.2.1 (p0.length : Int)) y1.2.2).bind fun r2 =>
    bif r2.2.2.2 then
      some (.inr (.inr (y1.1, y1.2.1, true, y1.2.2, 0)))
    else
      bif (r2.2.1 == 0) then
        some (.inr (.inr (y1.1, y1.2.1, false, y1.2.2, 12)))
      else
        chk (decide ((y1.1 ++ [r2.1]).length ≤ room)) <|
        some (.inl ((y1.1 ++ [r2.1]), (IntKind.wrap .i64 (y1.2.1 + r2.2.1)), r2.2.2.1))
  else
    some (.inr (.inl (y1.1, y1.2.1, y1.2.2)))
def r_Decode (fuel : Nat) (p0 : (List UInt8)) : Option ((List Note) × Int × Bool × Int × Int) :=
  bif (decide ((p0.length : Int) > 65536)) then
    some (([] : List Note), 0, false, 0, 3)
  else
    (iter (r_Decode_l1 fuel p0) fuel (([] : List Note), 0, 0)).bind (Sum.elim (fun v4 =>
      some (v4.1, v4.2.1, false, v4.2.2, 0)) (fun r5 =>
      some r5))
def Z375 (x0 : Note × Int × Int × Bool) : SV := .box [vI x0.1.Kind, vI x0.1.Unit, vS x0.1.Key, vB x0.1.Has, vS x0.1.Text]
def Z376 (x0 : Note × Int × Int × Bool) : SV := .own 5 (List.map encNote [x0.1])
def Z379 (x0 : (List Note) × Int × Int) : SV := .own 5 (List.map encNote x0.1)
def Z380 (x0 : (List Note) × Int × Int) (x1 : (List UInt8)) : SV := vB (decide (x0.2.1 < (x1.length : Int)))
def Z381 (x0 : (List UInt8)) (x1 : (List Note) × Int × Int) : SV := vS (sl x0 x1.2.1 (x0.length : Int))
def Z382 (x0 : (List Note) × Int × Int) (x1 : Note × Int × Int × Bool) : SV := .own 5 (List.map encNote (x0.1 ++ [x1.1]))
def Z383 (x0 : (List Note) × Int × Int) (x1 : Note × Int × Int × Bool) : SV := vI (IntKind.wrap .i64 (x0.2.1 + x1.2.1))
theorem r_Decode_ok {fuel : Nat} {p0 : (List UInt8)} {r : (List Note) × Int × Bool × Int × Int} (h : r_Decode fuel p0 = some r) : PC Try.prog 24 [vS p0] (.tup [.own 5 (List.map encNote r.1), vI r.2.1, vB r.2.2.1, .d (.int .u64 r.2.2.2.1), vI r.2.2.2.2]) := by
  refine PC.of_SW Try.func24 rfl fun H => ?_
  unfold r_Decode at h
  refine SW.kp 48 H [0] [(0, vS p0)] (by kernel_rfl) <| SW.R 1 [(0, vS p0), (2, Z305), (3, vI 0), (5, .d (.int .u64 0))] <| SW.seq <| SW.S <| OWk.G 1 [(0, vS p0), (2, Z305), (3, vI 0), (5, .d (.int .u64 0)), (11, vS p0)] <| OWk.G 1 [(0, vS p0), (2, Z305), (3, vI 0), (5, .d (.int .u64 0)), (12, vI (p0.length : Int))] <| OWk.G 1 [(0, vS p0), (2, Z305), (3, vI 0), (5, .d (.int .u64 0)), (13, Z236 p0)] <| OWk.E ?_
  refine SW.B (decide ((p0.length : Int) > 65536)) (fun hc => ?_) (fun hc => ?_)
  · replace h := bif_t hc h
    refine SW.R 1 [(2, Z305), (3, vI 0), (4, vB false), (5, .d (.int .u64 0)), (6, vI 3)] <| SW.ret <| thenS_r ?_
    cases h
    exact EndQ.ret [] (by kernel_rfl) rfl
  · replace h := bif_f hc h
    refine SW.skip <| thenS_n <| SW.seq <| SW.block ?_
    obtain ⟨z3, hit, h⟩ := bind_inv h
    refine SW.it 48 H [0, 2, 3, 5] (fun y1 => [(0, vS p0), (2, .own 5 (List.map encNote y1.1)), (3, vI y1.2.1), (5, .d (.int .u64 y1.2.2))]) (fun b e s => ((∃ v4, b = (.inl v4) ∧ (e = .exit 0 ∧ s = (sp 48 [(2, .own 5 (List.map encNote v4.1)), (3, vI v4.2.1), (5, .d (.int .u64 v4.2.2))] H))) ∨ (∃ r5, b = (.inr r5) ∧ (e = .ret ∧ EndQ Try.prog Try.f24.results.toList H (.tup [.own 5 (List.map encNote r5.1), vI r5.2.1, vB r5.2.2.1, .d (.int .u64 r5.2.2.2.1), vI r5.2.2.2.2]) .ret s)))) hit (by kernel_rfl) (fun y1 o h => ?_) ?_
    · unfold r_Decode_l1 at h
      refine SW.seq <| SW.S <| OWk.G 2 [(0, vS p0), (2, Z379 y1), (3, vI y1.2.1), (5, .d (.int .u64 y1.2.2)), (14, vI y1.2.1), (15, vS p0)] <| OWk.G 1 [(0, vS p0), (2, Z379 y1), (3, vI y1.2.1), (5, .d (.int .u64 y1.2.2)), (14, vI y1.2.1), (16, vI (p0.length : Int))] <| OWk.G 1 [(0, vS p0), (2, Z379 y1), (3, vI y1.2.1), (5, .d (.int .u64 y1.2.2)), (17, Z380 y1 p0)] <| OWk.E ?_
      refine SW.B (decide (y1.2.1 < (p0.length : Int))) (fun hc => ?_) (fun hc => ?_)
      · replace h := bif_t hc h
        refine SW.skip <| thenS_n <| SW.block <| SW.S <| OWk.G 2 [(0, vS p0), (2, Z379 y1), (3, vI y1.2.1), (5, .d (.int .u64 y1.2.2)), (19, vS p0), (20, vI y1.2.1)] ?_
        obtain ⟨hk, h⟩ := chk_inv h
        refine OWk.O (d := some 21) [(0, vS p0), (2, Z379 y1), (3, vI y1.2.1), (5, .d (.int .u64 y1.2.2)), (21, Z381 p0 y1)] (BAt.sliceS hk (by kernel_rfl)) <| OWk.G 1 [(0, vS p0), (2, Z379 y1), (3, vI y1.2.1), (5, .d (.int .u64 y1.2.2)), (21, Z381 p0 y1), (22, .d (.int .u64 y1.2.2))] ?_
        obtain ⟨r2, hr, h⟩ := bind_inv h
        refine OWk.C0 (some 23) [(0, vS p0), (2, Z379 y1), (3, vI y1.2.1), (5, .d (.int .u64 y1.2.2)), (23, .tup [.d (.agg [.int .i64 r2.1.Kind, .int .i64 r2.1.Unit, .str r2.1.Key, .bool r2.1.Has, .str r2.1.Text]), vI r2.2.1, .d (.int .u64 r2.2.2.1), vB r2.2.2.2])] (r_look_ok hr) <| OWk.G 10 [(0, vS p0), (2, Z379 y1), (3, vI y1.2.1), (5, .d (.int .u64 y1.2.2)), (7, Z375 r2), (8, vI r2.2.1), (9, .d (.int .u64 r2.2.2.1)), (10, vB r2.2.2.2)] <| OWk.E <| SW.seq <| SW.R 1 [(0, vS p0), (2, Z379 y1), (3, vI y1.2.1), (5, .d (.int .u64 y1.2.2)), (7, Z375 r2), (8, vI r2.2.1), (9, .d (.int .u64 r2.2.2.1)), (28, vB r2.2.2.2)] ?_
        refine SW.B r2.2.2.2 (fun hc => ?_) (fun hc => ?_)
        · replace h := bif_t hc h
          refine SW.S <| OWk.sg 48 H [29] [2, 3, 4, 5, 6] 8 [(2, Z379 y1), (3, vI y1.2.1), (4, vB true), (5, .d (.int .u64 y1.2.2)), (6, vI 0)] (by kernel_rfl) <| OWk.E <| SW.ret <| thenS_r <| blockS_r ?_
          cases h
          refine thenS_r ?_
          exact ⟨_, rfl, .inr (⟨(y1.1, y1.2.1, true, y1.2.2, 0), rfl, rfl, EndQ.ret [] (by kernel_rfl) rfl⟩)⟩
        · replace h := bif_f hc h
          refine SW.skip <| thenS_n <| SW.seq <| SW.R 1 [(0, vS p0), (2, Z379 y1), (3, vI y1.2.1), (5, .d (.int .u64 y1.2.2)), (7, Z375 r2), (8, vI r2.2.1), (9, .d (.int .u64 r2.2.2.1)), (33, vB (r2.2.1 == 0))] ?_
          refine SW.B (r2.2.1 == 0) (fun hc => ?_) (fun hc => ?_)
          · replace h := bif_t hc h
            refine SW.S <| OWk.sg 48 H [34] [2, 3, 4, 5, 6] 8 [(2, Z379 y1), (3, vI y1.2.1), (4, vB false), (5, .d (.int .u64 y1.2.2)), (6, vI 12)] (by kernel_rfl) <| OWk.E <| SW.ret <| thenS_r <| blockS_r ?_
            cases h
            refine thenS_r ?_
            exact ⟨_, rfl, .inr (⟨(y1.1, y1.2.1, false, y1.2.2, 12), rfl, rfl, EndQ.ret [] (by kernel_rfl) rfl⟩)⟩
          · replace h := bif_f hc h
            refine SW.skip <| thenS_n <| SW.S <| OWk.sg 48 H [37] [0, 3, 8, 9, 37, 39] 3 [(0, vS p0), (3, vI y1.2.1), (8, vI r2.2.1), (9, .d (.int .u64 r2.2.2.1)), (37, Z379 y1), (39, Z376 r2)] (by kernel_rfl) ?_
            obtain ⟨hk, h⟩ := chk_inv h
            refine OWk.app 48 H (s := 37) (d := 40) (w := 5) [0, 3, 8, 9, 40] (zs := List.map encNote (y1.1 ++ [r2.1])) [(0, vS p0), (3, vI y1.2.1), (8, vI r2.2.1), (9, .d (.int .u64 r2.2.2.1)), (40, Z382 y1 r2)] (ys := (List.map encNote [r2.1])) (by kernel_rfl) (map_append') (room_map hk) (by kernel_rfl) <| OWk.sg 48 H [37] [0, 2, 3, 8, 9] 1 [(0, vS p0), (2, Z382 y1 r2), (3, vI y1.2.1), (8, vI r2.2.1), (9, .d (.int .u64 r2.2.2.1))] (by kernel_rfl) <| OWk.E <| SW.R 1 [(0, vS p0), (2, Z382 y1 r2), (3, Z383 y1 r2), (9, .d (.int .u64 r2.2.2.1))] <| SW.regionK <| OWk.G 2 [(0, vS p0), (2, Z382 y1 r2), (3, Z383 y1 r2), (5, .d (.int .u64 r2.2.2.1))] <| OWk.D <| blockS_n ?_
            cases h
            exact ⟨((y1.1 ++ [r2.1]), (IntKind.wrap .i64 (y1.2.1 + r2.2.1)), r2.2.2.1), rfl, by kernel_rfl⟩
      · replace h := bif_f hc h
        refine SW.K [(2, Z379 y1), (3, vI y1.2.1), (5, .d (.int .u64 y1.2.2))] <| SW.exit <| thenS_e ?_
        cases h
        refine thenS_e ?_
        exact ⟨_, rfl, .inl ⟨(y1.1, y1.2.1, y1.2.2), rfl, rfl, rfl⟩⟩
    · rintro _ _ (⟨v4, rfl, rfl, rfl⟩ | ⟨r5, rfl, rfl, hE⟩)
      · replace h := sum_l h
        refine blockS_hit <| thenS_n <| SW.S <| OWk.sg 48 H [45] [2, 3, 4, 5, 6] 8 [(2, Z379 v4), (3, vI v4.2.1), (4, vB false), (5, .d (.int .u64 v4.2.2)), (6, vI 0)] (by kernel_rfl) <| OWk.E <| SW.ret ?_
        cases h
        exact EndQ.ret [] (by kernel_rfl) rfl
      · replace h := sum_r h
        refine blockS_r <| thenS_r ?_
        cases h
        exact hE
def r_SameNotes_l1 (fuel : Nat) (p0 : (List Note)) (p1 : (List Note)) (y1 : Int) : Option ((Int) ⊕ ((Unit) ⊕ ((Bool)))) :=
  bif (decide (y1 < (p0.length : Int))) then
    (idx p0 y1).bind fun x2 =>
    (idx p1 y1).bind fun x3 =>
    bif (!((x2.Kind == x3.Kind) && ((x2.Unit == x3.Unit) && ((x2.Key == x3.Key) && ((x2.Has == x3.Has) && ((x2.Text == x3.Text) && true)))))) then
      some (.inr (.inr false))
    else
      some (.inl (IntKind.wrap .i64 (y1 + 1)))
  else
    some (.inr (.inl ()))
def r_SameNotes (fuel : Nat) (p0 : (List Note)) (p1 : (List Note)) : Option (Bool) :=
  bif ((p0.length : Int) != (p1.length : Int)) then
    some false
  else
    (iter (r_SameNotes_l1 fuel p0 p1) fuel 0).bind (Sum.elim (fun v5 =>
      some true) (fun r6 =>
      some r6))
def Z384 (x0 : (List Note) × Int × Bool × Int × Int) : SV := .own 5 (List.map encNote x0.1)
def Z385 (x0 : (List Note)) (x1 : (List Note)) : SV := vB ((x0.length : Int) != (x1.length : Int))
def Z386 (x0 : Note) (x1 : Note) : SV := vB (!((x0.Kind == x1.Kind) && ((x0.Unit == x1.Unit) && ((x0.Key == x1.Key) && ((x0.Has == x1.Has) && ((x0.Text == x1.Text) && true))))))
theorem r_SameNotes_ok {fuel : Nat} {p0 : (List Note)} {p1 : (List Note)} {r : Bool} (h : r_SameNotes fuel p0 p1 = some r) : PC Try.prog 25 [.d (.list 5 (List.map encNote p0)), .d (.list 5 (List.map encNote p1))] (vB r) := by
  refine PC.of_SW Try.func25 rfl fun H => ?_
  unfold r_SameNotes at h
  refine SW.kp 26 H [0, 1] [(0, Z1 p0), (1, Z1 p1)] (by kernel_rfl) <| SW.R 1 [(0, Z1 p0), (1, Z1 p1)] <| SW.seq <| SW.S <| OWk.G 1 [(0, Z1 p0), (1, Z1 p1), (6, Z1 p0)] <| OWk.O (d := some 7) [(0, Z1 p0), (1, Z1 p1), (7, vI (p0.length : Int))] (BAt.len (enc := encNote) (xs := p0) (by kernel_rfl)) <| OWk.G 1 [(0, Z1 p0), (1, Z1 p1), (7, vI (p0.length : Int)), (8, Z1 p1)] <| OWk.O (d := some 9) [(0, Z1 p0), (1, Z1 p1), (7, vI (p0.length : Int)), (9, vI (p1.length : Int))] (BAt.len (enc := encNote) (xs := p1) (by kernel_rfl)) <| OWk.G 1 [(0, Z1 p0), (1, Z1 p1), (10, Z385 p0 p1)] <| OWk.E ?_
  refine SW.B ((p0.length : Int) != (p1.length : Int)) (fun hc => ?_) (fun hc => ?_)
  · replace h := bif_t hc h
    refine SW.R 1 [(4, vB false)] <| SW.ret <| thenS_r ?_
    cases h
    exact EndQ.ret [] (by kernel_rfl) rfl
  · replace h := bif_f hc h
    refine SW.skip <| thenS_n <| SW.seq <| SW.R 1 [(0, Z1 p0), (1, Z1 p1), (5, vI 0)] <| SW.block ?_
    obtain ⟨z4, hit, h⟩ := bind_inv h
    refine SW.it 26 H [0, 1, 5] (fun y1 => [(0, Z1 p0), (1, Z1 p1), (5, vI y1)]) (fun b e s => ((∃ v5, b = (.inl v5) ∧ (e = .exit 0 ∧ s = (sp 26 [] H))) ∨ (∃ r6, b = (.inr r6) ∧ (e = .ret ∧ EndQ Try.prog Try.f25.results.toList H (vB r6) .ret s)))) hit (by kernel_rfl) (fun y1 o h => ?_) ?_
    · unfold r_SameNotes_l1 at h
      refine SW.seq <| SW.S <| OWk.G 2 [(0, Z1 p0), (1, Z1 p1), (5, vI y1), (11, vI y1), (12, Z1 p0)] <| OWk.O (d := some 13) [(0, Z1 p0), (1, Z1 p1), (5, vI y1), (11, vI y1), (13, vI (p0.length : Int))] (BAt.len (enc := encNote) (xs := p0) (by kernel_rfl)) <| OWk.G 1 [(0, Z1 p0), (1, Z1 p1), (5, vI y1), (14, Z50 y1 p0)] <| OWk.E ?_
      refine SW.B (decide (y1 < (p0.length : Int))) (fun hc => ?_) (fun hc => ?_)
      · replace h := bif_t hc h
        refine SW.skip <| thenS_n <| SW.seq <| SW.block <| SW.seq <| SW.regionDk (by kernel_rfl) (by kernel_rfl) <| OBk.G 2 [(0, Z1 p0), (1, Z1 p1), (5, vI y1), (17, Z1 p0), (18, vI y1)] ?_
        obtain ⟨x2, hx, h⟩ := bind_inv h
        refine OBk.O (d := some 19) (s := lendP none (Go.Sh.D.cells (encNote x2))) [(0, Z1 p0), (1, Z1 p1), (5, vI y1), (19, .d (.dptr [.int .i64 x2.Kind, .int .i64 x2.Unit, .str x2.Key, .bool x2.Has, .str x2.Text]))] (BAt.index (n := 5) hx (by kernel_rfl)) <| OBk.G 3 [(0, Z1 p0), (1, Z1 p1), (5, vI y1), (20, Z29 x2), (21, Z1 p1), (22, vI y1)] ?_
        obtain ⟨x3, hx, h⟩ := bind_inv h
        refine OBk.O (d := some 23) (s := lendP none (Go.Sh.D.cells (encNote x3))) [(0, Z1 p0), (1, Z1 p1), (5, vI y1), (20, Z29 x2), (23, .d (.dptr [.int .i64 x3.Kind, .int .i64 x3.Unit, .str x3.Key, .bool x3.Has, .str x3.Text]))] (BAt.index (n := 5) hx (by kernel_rfl)) <| OBk.G 2 [(0, Z1 p0), (1, Z1 p1), (5, vI y1), (25, Z386 x2 x3)] <| OBk.done (by kernel_rfl) <| thenS_n ?_
        refine SW.B (!((x2.Kind == x3.Kind) && ((x2.Unit == x3.Unit) && ((x2.Key == x3.Key) && ((x2.Has == x3.Has) && ((x2.Text == x3.Text) && true)))))) (fun hc => ?_) (fun hc => ?_)
        · replace h := bif_t hc h
          refine SW.R 1 [(4, vB false)] <| SW.ret <| blockS_r <| thenS_r ?_
          cases h
          refine thenS_r ?_
          exact ⟨_, rfl, .inr (⟨false, rfl, rfl, EndQ.ret [] (by kernel_rfl) rfl⟩)⟩
        · replace h := bif_f hc h
          refine SW.skip <| blockS_n <| thenS_n <| SW.regionK <| OWk.G 3 [(0, Z1 p0), (1, Z1 p1), (5, Z24 y1)] <| OWk.D ?_
          cases h
          exact ⟨(IntKind.wrap .i64 (y1 + 1)), rfl, by kernel_rfl⟩
      · replace h := bif_f hc h
        refine SW.K [] <| SW.exit <| thenS_e ?_
        cases h
        refine thenS_e ?_
        exact ⟨_, rfl, .inl ⟨(), rfl, rfl, rfl⟩⟩
    · rintro _ _ (⟨v5, rfl, rfl, rfl⟩ | ⟨r6, rfl, rfl, hE⟩)
      · replace h := sum_l h
        refine blockS_hit <| thenS_n <| SW.R 1 [(4, vB true)] <| SW.ret ?_
        cases h
        exact EndQ.ret [] (by kernel_rfl) rfl
      · replace h := sum_r h
        refine blockS_r <| thenS_r ?_
        cases h
        exact hE
def Z387 (x0 : Bool) (x1 : (List Note) × Int × Bool × Int) (x2 : (List Note) × Int × Bool × Int × Int) : SV := vB (x0 && (x1.2.1 == x2.2.1))
def Z388 (x0 : Bool) (x1 : (List Note) × Int × Bool × Int) (x2 : (List Note) × Int × Bool × Int × Int) : SV := vB ((x0 && (x1.2.1 == x2.2.1)) && (x1.2.2.1 == x2.2.2.1))
def r_written (fuel : Nat) (p0 : Note) : Option ((List UInt8)) :=
  letJ (fun (j1 : Int) =>
    chk (decide (([74, (IntKind.wrap .u8 p0.Kind), (IntKind.wrap .u8 (IntKind.wrap .i64 (Int.tdiv p0.Unit 256))), (IntKind.wrap .u8 (Int.tmod p0.Unit 256)), (IntKind.wrap .u8 (p0.Key.length : Int))] ++ (nums p0.Key)).length ≤ room)) <|
    chk (decide ((([74, (IntKind.wrap .u8 p0.Kind), (IntKind.wrap .u8 (IntKind.wrap .i64 (Int.tdiv p0.Unit 256))), (IntKind.wrap .u8 (Int.tmod p0.Unit 256)), (IntKind.wrap .u8 (p0.Key.length : Int))] ++ (nums p0.Key)) ++ [j1, (IntKind.wrap .u8 (IntKind.wrap .i64 (Int.tdiv (p0.Text.length : Int) 256))), (IntKind.wrap .u8 (Int.tmod (p0.Text.length : Int) 256))]).length ≤ room)) <|
    chk (decide (((bytes (([74, (IntKind.wrap .u8 p0.Kind), (IntKind.wrap .u8 (IntKind.wrap .i64 (Int.tdiv p0.Unit 256))), (IntKind.wrap .u8 (Int.tmod p0.Unit 256)), (IntKind.wrap .u8 (p0.Key.length : Int))] ++ (nums p0.Key)) ++ [j1, (IntKind.wrap .u8 (IntKind.wrap .i64 (Int.tdiv (p0.Text.length : Int) 256))), (IntKind.wrap .u8 (Int.tmod (p0.Text.length : Int) 256))])) ++ p0.Text).length ≤ room)) <|
    some ((bytes (([74, (IntKind.wrap .u8 p0.Kind), (IntKind.wrap .u8 (IntKind.wrap .i64 (Int.tdiv p0.Unit 256))), (IntKind.wrap .u8 (Int.tmod p0.Unit 256)), (IntKind.wrap .u8 (p0.Key.length : Int))] ++ (nums p0.Key)) ++ [j1, (IntKind.wrap .u8 (IntKind.wrap .i64 (Int.tdiv (p0.Text.length : Int) 256))), (IntKind.wrap .u8 (Int.tmod (p0.Text.length : Int) 256))])) ++ p0.Text)) fun jp2 =>
  bif p0.Has then
    jp2 1
  else
    jp2 0
def Z390 (x0 : Note) : SV := .d (.int .u8 (IntKind.wrap .u8 x0.Kind))
def Z391 (x0 : Note) : SV := .d (.int .u8 (IntKind.wrap .u8 (IntKind.wrap .i64 (Int.tdiv x0.Unit 256))))
def Z392 (x0 : Note) : SV := .d (.int .u8 (IntKind.wrap .u8 (Int.tmod x0.Unit 256)))
def Z393 (x0 : Note) : SV := .own 1 (List.map (D.int .u8) [74, (IntKind.wrap .u8 x0.Kind), (IntKind.wrap .u8 (IntKind.wrap .i64 (Int.tdiv x0.Unit 256))), (IntKind.wrap .u8 (Int.tmod x0.Unit 256)), (IntKind.wrap .u8 (x0.Key.length : Int))])
def Z394 (x0 : Note) : SV := .own 1 (List.map (D.int .u8) ([74, (IntKind.wrap .u8 x0.Kind), (IntKind.wrap .u8 (IntKind.wrap .i64 (Int.tdiv x0.Unit 256))), (IntKind.wrap .u8 (Int.tmod x0.Unit 256)), (IntKind.wrap .u8 (x0.Key.length : Int))] ++ (nums x0.Key)))
def Z395 (x0 : Note) : SV := .d (.int .u8 (IntKind.wrap .u8 (IntKind.wrap .i64 (Int.tdiv (x0.Text.length : Int) 256))))
def Z396 (x0 : Int) (x1 : Note) : SV := .own 1 (List.map (D.int .u8) [x0, (IntKind.wrap .u8 (IntKind.wrap .i64 (Int.tdiv (x1.Text.length : Int) 256))), (IntKind.wrap .u8 (Int.tmod (x1.Text.length : Int) 256))])
def Z397 (x0 : Note) (x1 : Int) : SV := .own 1 (List.map (D.int .u8) (([74, (IntKind.wrap .u8 x0.Kind), (IntKind.wrap .u8 (IntKind.wrap .i64 (Int.tdiv x0.Unit 256))), (IntKind.wrap .u8 (Int.tmod x0.Unit 256)), (IntKind.wrap .u8 (x0.Key.length : Int))] ++ (nums x0.Key)) ++ [x1, (IntKind.wrap .u8 (IntKind.wrap .i64 (Int.tdiv (x0.Text.length : Int) 256))), (IntKind.wrap .u8 (Int.tmod (x0.Text.length : Int) 256))]))
def Z398 (x0 : Note) (x1 : Int) : SV := vS (bytes (([74, (IntKind.wrap .u8 x0.Kind), (IntKind.wrap .u8 (IntKind.wrap .i64 (Int.tdiv x0.Unit 256))), (IntKind.wrap .u8 (Int.tmod x0.Unit 256)), (IntKind.wrap .u8 (x0.Key.length : Int))] ++ (nums x0.Key)) ++ [x1, (IntKind.wrap .u8 (IntKind.wrap .i64 (Int.tdiv (x0.Text.length : Int) 256))), (IntKind.wrap .u8 (Int.tmod (x0.Text.length : Int) 256))]))
def Z399 (x0 : Note) (x1 : Int) : SV := vS ((bytes (([74, (IntKind.wrap .u8 x0.Kind), (IntKind.wrap .u8 (IntKind.wrap .i64 (Int.tdiv x0.Unit 256))), (IntKind.wrap .u8 (Int.tmod x0.Unit 256)), (IntKind.wrap .u8 (x0.Key.length : Int))] ++ (nums x0.Key)) ++ [x1, (IntKind.wrap .u8 (IntKind.wrap .i64 (Int.tdiv (x0.Text.length : Int) 256))), (IntKind.wrap .u8 (Int.tmod (x0.Text.length : Int) 256))])) ++ x0.Text)
theorem r_written_ok {fuel : Nat} {p0 : Note} {r : (List UInt8)} (h : r_written fuel p0 = some r) : PC Try.prog 74 [.d (encNote p0)] (vS r) := by
  refine PC.of_SW Try.func74 rfl fun H => ?_
  unfold r_written at h
  refine SW.kp 46 H [0] [(0, Z29 p0)] (by kernel_rfl) <| SW.R 2 [(1, Z30 p0), (3, .d (.int .u8 0))] ?_
  obtain ⟨jp2, hjjp2, h⟩ := letJ_inv h
  refine SW.jn 46 H [1, 3] (fun (j1 : Int) => [(1, Z30 p0), (3, .d (.int .u8 j1))]) (fun v => jp2 v = some r) (fun j1 h => ?_) ?_
  · rw [hjjp2] at h
    refine SW.S <| OWk.G 13 [(1, Z30 p0), (3, .d (.int .u8 j1)), (9, Z390 p0), (13, Z391 p0), (17, Z392 p0), (19, vS p0.Key)] <| OWk.G 1 [(1, Z30 p0), (3, .d (.int .u8 j1)), (9, Z390 p0), (13, Z391 p0), (17, Z392 p0), (20, Z6 p0)] <| OWk.G 3 [(1, Z30 p0), (3, .d (.int .u8 j1)), (4, Z393 p0)] <| OWk.E <| SW.S <| OWk.sg 46 H [23] [1, 3, 23, 25] 3 [(1, Z30 p0), (3, .d (.int .u8 j1)), (23, Z393 p0), (25, vS p0.Key)] (by kernel_rfl) ?_
    obtain ⟨hk, h⟩ := chk_inv h
    refine OWk.app 46 H (s := 23) (d := 26) (w := 1) [1, 3, 26] (zs := List.map (D.int .u8) ([74, (IntKind.wrap .u8 p0.Kind), (IntKind.wrap .u8 (IntKind.wrap .i64 (Int.tdiv p0.Unit 256))), (IntKind.wrap .u8 (Int.tmod p0.Unit 256)), (IntKind.wrap .u8 (p0.Key.length : Int))] ++ (nums p0.Key))) [(1, Z30 p0), (3, .d (.int .u8 j1)), (26, Z394 p0)] (ys := (byteDs p0.Key)) (by kernel_rfl) (map_appendS) (room_map hk) (by kernel_rfl) <| OWk.sg 46 H [23] [1, 3, 4] 1 [(1, Z30 p0), (3, .d (.int .u8 j1)), (4, Z394 p0)] (by kernel_rfl) <| OWk.E <| SW.S <| OWk.sg 46 H [27] [1, 27, 28, 30] 4 [(1, Z30 p0), (27, Z394 p0), (28, .d (.int .u8 j1)), (30, vS p0.Text)] (by kernel_rfl) <| OWk.G 1 [(1, Z30 p0), (27, Z394 p0), (28, .d (.int .u8 j1)), (31, Z5 p0)] <| OWk.sg 46 H [27] [1, 27, 28, 33, 35] 4 [(1, Z30 p0), (27, Z394 p0), (28, .d (.int .u8 j1)), (33, Z395 p0), (35, vS p0.Text)] (by kernel_rfl) <| OWk.G 1 [(1, Z30 p0), (27, Z394 p0), (28, .d (.int .u8 j1)), (33, Z395 p0), (36, Z5 p0)] <| OWk.sg 46 H [27] [1, 27, 39] 3 [(1, Z30 p0), (27, Z394 p0), (39, Z396 j1 p0)] (by kernel_rfl) ?_
    obtain ⟨hk, h⟩ := chk_inv h
    refine OWk.app 46 H (s := 27) (d := 40) (w := 1) [1, 40] (zs := List.map (D.int .u8) (([74, (IntKind.wrap .u8 p0.Kind), (IntKind.wrap .u8 (IntKind.wrap .i64 (Int.tdiv p0.Unit 256))), (IntKind.wrap .u8 (Int.tmod p0.Unit 256)), (IntKind.wrap .u8 (p0.Key.length : Int))] ++ (nums p0.Key)) ++ [j1, (IntKind.wrap .u8 (IntKind.wrap .i64 (Int.tdiv (p0.Text.length : Int) 256))), (IntKind.wrap .u8 (Int.tmod (p0.Text.length : Int) 256))])) [(1, Z30 p0), (40, Z397 p0 j1)] (ys := (List.map (D.int .u8) [j1, (IntKind.wrap .u8 (IntKind.wrap .i64 (Int.tdiv (p0.Text.length : Int) 256))), (IntKind.wrap .u8 (Int.tmod (p0.Text.length : Int) 256))])) (by kernel_rfl) (map_append') (room_map hk) (by kernel_rfl) <| OWk.sg 46 H [27] [1, 4] 1 [(1, Z30 p0), (4, Z397 p0 j1)] (by kernel_rfl) <| OWk.E <| SW.S <| OWk.sg 46 H [41] [1, 41] 1 [(1, Z30 p0), (41, Z397 p0 j1)] (by kernel_rfl) <| OWk.O (d := some 42) [(1, Z30 p0), (42, Z398 p0 j1)] (BAt.str (l := (([74, (IntKind.wrap .u8 p0.Kind), (IntKind.wrap .u8 (IntKind.wrap .i64 (Int.tdiv p0.Unit 256))), (IntKind.wrap .u8 (Int.tmod p0.Unit 256)), (IntKind.wrap .u8 (p0.Key.length : Int))] ++ (nums p0.Key)) ++ [j1, (IntKind.wrap .u8 (IntKind.wrap .i64 (Int.tdiv (p0.Text.length : Int) 256))), (IntKind.wrap .u8 (Int.tmod (p0.Text.length : Int) 256))])) (by kernel_rfl)) <| OWk.sg 46 H [41] [42, 44] 2 [(42, Z398 p0 j1), (44, vS p0.Text)] (by kernel_rfl) ?_
    obtain ⟨hk, h⟩ := chk_inv h
    refine OWk.O (d := some 45) [(45, Z399 p0 j1)] (BAt.addS hk (by kernel_rfl)) <| OWk.sg 46 H [41] [2] 1 [(2, Z399 p0 j1)] (by kernel_rfl) <| OWk.E <| SW.ret ?_
    cases h
    exact EndQ.ret [] (by kernel_rfl) rfl
  · refine SW.R 1 [(1, Z30 p0), (3, .d (.int .u8 0)), (6, vB p0.Has)] ?_
    refine SW.B p0.Has (fun hc => ?_) (fun hc => ?_)
    · replace h := bif_t hc h
      refine SW.regionK <| OWk.G 1 [(1, Z30 p0), (3, .d (.int .u8 1))] <| OWk.D ?_
      exact ⟨1, [], by kernel_rfl, h⟩
    · replace h := bif_f hc h
      refine SW.skip ?_
      exact ⟨0, [], by kernel_rfl, h⟩
def r_all_l1 (fuel : Nat) (p1 : (List Note)) (y1 : Int × (List UInt8) × Int) : Option ((Int × (List UInt8) × Int) ⊕ ((List UInt8))) :=
  bif (decide (y1.2.2 < (p1.length : Int))) then
    (idx p1 y1.2.2).bind fun x2 =>
    (r_written fuel x2).bind fun r3 =>
    (r_Sum fuel y1.1 r3).bind fun r4 =>
    chk (decide ((y1.2.1 ++ r3).length ≤ room)) <|
    (r_eight fuel r4).bind fun r5 =>
    chk (decide (((y1.2.1 ++ r3) ++ r5).length ≤ room)) <|
    some (.inl (r4, ((y1.2.1 ++ r3) ++ r5), (IntKind.wrap .i64 (y1.2.2 + 1))))
  else
    some (.inr y1.2.1)
def r_all (fuel : Nat) (p0 : Int) (p1 : (List Note)) : Option ((List UInt8)) :=
  (iter (r_all_l1 fuel p1) fuel (p0, [], 0)).bind fun v7 =>
  some v7
def Z400 (x0 : Int × (List UInt8) × Int) (x1 : (List Note)) : SV := vB (decide (x0.2.2 < (x1.length : Int)))
def Z401 (x0 : Int × (List UInt8) × Int) (x1 : (List UInt8)) (x2 : (List UInt8)) : SV := vS ((x0.2.1 ++ x1) ++ x2)
def Z402 (x0 : Int × (List UInt8) × Int) : SV := vI (IntKind.wrap .i64 (x0.2.2 + 1))
theorem r_all_ok {fuel : Nat} {p0 : Int} {p1 : (List Note)} {r : (List UInt8)} (h : r_all fuel p0 p1 = some r) : PC Try.prog 57 [.d (.int .u64 p0), .d (.list 5 (List.map encNote p1))] (vS r) := by
  refine PC.of_SW Try.func57 rfl fun H => ?_
  unfold r_all at h
  refine SW.kp 29 H [0, 1] [(0, .d (.int .u64 p0)), (1, Z1 p1)] (by kernel_rfl) <| SW.R 2 [(0, .d (.int .u64 p0)), (1, Z1 p1), (5, vS [])] <| SW.seq <| SW.R 1 [(0, .d (.int .u64 p0)), (1, Z1 p1), (5, vS []), (6, vI 0)] <| SW.block ?_
  obtain ⟨v7, hit, h⟩ := bind_inv h
  refine SW.it 29 H [0, 1, 5, 6] (fun y1 => [(0, .d (.int .u64 y1.1)), (1, Z1 p1), (5, vS y1.2.1), (6, vI y1.2.2)]) (fun v7 e s => (e = .exit 0 ∧ s = (sp 29 [(5, vS v7)] H))) hit (by kernel_rfl) (fun y1 o h => ?_) ?_
  · unfold r_all_l1 at h
    refine SW.seq <| SW.S <| OWk.G 2 [(0, .d (.int .u64 y1.1)), (1, Z1 p1), (5, vS y1.2.1), (6, vI y1.2.2), (8, vI y1.2.2), (9, Z1 p1)] <| OWk.O (d := some 10) [(0, .d (.int .u64 y1.1)), (1, Z1 p1), (5, vS y1.2.1), (6, vI y1.2.2), (8, vI y1.2.2), (10, vI (p1.length : Int))] (BAt.len (enc := encNote) (xs := p1) (by kernel_rfl)) <| OWk.G 1 [(0, .d (.int .u64 y1.1)), (1, Z1 p1), (5, vS y1.2.1), (6, vI y1.2.2), (11, Z400 y1 p1)] <| OWk.E ?_
    refine SW.B (decide (y1.2.2 < (p1.length : Int))) (fun hc => ?_) (fun hc => ?_)
    · replace h := bif_t hc h
      refine SW.skip <| thenS_n <| SW.seq <| SW.block <| SW.S <| OWk.G 2 [(0, .d (.int .u64 y1.1)), (1, Z1 p1), (5, vS y1.2.1), (6, vI y1.2.2), (14, Z1 p1), (15, vI y1.2.2)] ?_
      obtain ⟨x2, hx, h⟩ := bind_inv h
      refine OWk.O (d := some 16) (s := lendP none (Go.Sh.D.cells (encNote x2))) [(0, .d (.int .u64 y1.1)), (1, Z1 p1), (5, vS y1.2.1), (6, vI y1.2.2), (16, .d (.dptr [.int .i64 x2.Kind, .int .i64 x2.Unit, .str x2.Key, .bool x2.Has, .str x2.Text]))] (BAt.index (n := 5) hx (by kernel_rfl)) <| OWk.G 1 [(0, .d (.int .u64 y1.1)), (1, Z1 p1), (5, vS y1.2.1), (6, vI y1.2.2), (17, Z29 x2)] ?_
      obtain ⟨r3, hr, h⟩ := bind_inv h
      refine OWk.C0 (some 18) [(0, .d (.int .u64 y1.1)), (1, Z1 p1), (5, vS y1.2.1), (6, vI y1.2.2), (18, vS r3)] (r_written_ok hr) <| OWk.G 1 [(0, .d (.int .u64 y1.1)), (1, Z1 p1), (5, vS y1.2.1), (6, vI y1.2.2), (7, vS r3)] <| OWk.E <| SW.S <| OWk.G 2 [(1, Z1 p1), (5, vS y1.2.1), (6, vI y1.2.2), (7, vS r3), (19, .d (.int .u64 y1.1)), (20, vS r3)] ?_
      obtain ⟨r4, hr, h⟩ := bind_inv h
      refine OWk.C0 (some 21) [(1, Z1 p1), (5, vS y1.2.1), (6, vI y1.2.2), (7, vS r3), (21, .d (.int .u64 r4))] (r_Sum_ok hr) <| OWk.G 1 [(0, .d (.int .u64 r4)), (1, Z1 p1), (5, vS y1.2.1), (6, vI y1.2.2), (7, vS r3)] <| OWk.E <| SW.regionK <| OWk.G 2 [(0, .d (.int .u64 r4)), (1, Z1 p1), (6, vI y1.2.2), (22, vS y1.2.1), (23, vS r3)] ?_
      obtain ⟨hk, h⟩ := chk_inv h
      refine OWk.O (d := some 24) [(0, .d (.int .u64 r4)), (1, Z1 p1), (6, vI y1.2.2), (24, vS (y1.2.1 ++ r3))] (BAt.addS hk (by kernel_rfl)) <| OWk.G 1 [(0, .d (.int .u64 r4)), (1, Z1 p1), (6, vI y1.2.2), (24, vS (y1.2.1 ++ r3)), (25, .d (.int .u64 r4))] ?_
      obtain ⟨r5, hr, h⟩ := bind_inv h
      refine OWk.C0 (some 26) [(0, .d (.int .u64 r4)), (1, Z1 p1), (6, vI y1.2.2), (24, vS (y1.2.1 ++ r3)), (26, vS r5)] (r_eight_ok hr) ?_
      obtain ⟨hk, h⟩ := chk_inv h
      refine OWk.O (d := some 27) [(0, .d (.int .u64 r4)), (1, Z1 p1), (6, vI y1.2.2), (27, Z401 y1 r3 r5)] (BAt.addS hk (by kernel_rfl)) <| OWk.G 1 [(0, .d (.int .u64 r4)), (1, Z1 p1), (5, Z401 y1 r3 r5), (6, vI y1.2.2)] <| OWk.D <| blockS_n <| thenS_n <| SW.regionK <| OWk.G 3 [(0, .d (.int .u64 r4)), (1, Z1 p1), (5, Z401 y1 r3 r5), (6, Z402 y1)] <| OWk.D ?_
      cases h
      exact ⟨(r4, ((y1.2.1 ++ r3) ++ r5), (IntKind.wrap .i64 (y1.2.2 + 1))), rfl, by kernel_rfl⟩
    · replace h := bif_f hc h
      refine SW.K [(5, vS y1.2.1)] <| SW.exit <| thenS_e ?_
      cases h
      refine thenS_e ?_
      exact ⟨_, rfl, ⟨rfl, rfl⟩⟩
  · rintro _ _ ⟨rfl, rfl⟩
    refine blockS_hit <| thenS_n <| SW.R 1 [(4, vS v7)] <| SW.ret ?_
    cases h
    exact EndQ.ret [] (by kernel_rfl) rfl
def r_Encode (fuel : Nat) (p0 : (List Note)) : Option ((List UInt8) × Int) :=
  (r_notes fuel p0).bind fun r1 =>
  bif (!r1) then
    some ([], 1)
  else
    (r_all fuel 0 p0).bind fun r2 =>
    bif (decide ((r2.length : Int) > 65536)) then
      some ([], 3)
    else
      some (r2, 0)
theorem r_Encode_ok {fuel : Nat} {p0 : (List Note)} {r : (List UInt8) × Int} (h : r_Encode fuel p0 = some r) : PC Try.prog 26 [.d (.list 5 (List.map encNote p0))] (.tup [vS r.1, vI r.2]) := by
  refine PC.of_SW Try.func26 rfl fun H => ?_
  unfold r_Encode at h
  refine SW.kp 14 H [0] [(0, Z1 p0)] (by kernel_rfl) <| SW.R 1 [(0, Z1 p0)] <| SW.seq <| SW.S <| OWk.G 1 [(0, Z1 p0), (5, Z1 p0)] ?_
  obtain ⟨r1, hr, h⟩ := bind_inv h
  refine OWk.C0 (some 6) [(0, Z1 p0), (6, vB r1)] (r_notes_ok hr) <| OWk.G 1 [(0, Z1 p0), (7, vB (!r1))] <| OWk.E ?_
  refine SW.B (!r1) (fun hc => ?_) (fun hc => ?_)
  · replace h := bif_t hc h
    refine SW.R 1 [(2, vS []), (3, vI 1)] <| SW.ret <| thenS_r ?_
    cases h
    exact EndQ.ret [] (by kernel_rfl) rfl
  · replace h := bif_f hc h
    refine SW.skip <| thenS_n <| SW.S <| OWk.G 1 [(8, Z1 p0)] ?_
    obtain ⟨r2, hr, h⟩ := bind_inv h
    refine OWk.C0 (some 9) [(9, vS r2)] (r_all_ok hr) <| OWk.G 1 [(4, vS r2)] <| OWk.E <| SW.seq <| SW.S <| OWk.G 1 [(4, vS r2), (10, vS r2)] <| OWk.G 1 [(4, vS r2), (11, vI (r2.length : Int))] <| OWk.G 1 [(4, vS r2), (12, Z236 r2)] <| OWk.E ?_
    refine SW.B (decide ((r2.length : Int) > 65536)) (fun hc => ?_) (fun hc => ?_)
    · replace h := bif_t hc h
      refine SW.R 1 [(2, vS []), (3, vI 3)] <| SW.ret <| thenS_r ?_
      cases h
      exact EndQ.ret [] (by kernel_rfl) rfl
    · replace h := bif_f hc h
      refine SW.skip <| thenS_n <| SW.R 1 [(2, vS r2), (3, vI 0)] <| SW.ret ?_
      cases h
      exact EndQ.ret [] (by kernel_rfl) rfl
def Z403 (x0 : Int) : SV := .d (.int .u64 (IntKind.wrap .u64 x0))
def j_body (fuel : Nat) (p0 : Note) : Option ((List UInt8)) :=
  letJ (fun (j1 : Int) =>
    chk (decide (([74, (IntKind.wrap .u8 p0.Kind), (IntKind.wrap .u8 (Int.fdiv p0.Unit (2 ^ 8))), (IntKind.wrap .u8 p0.Unit), (IntKind.wrap .u8 (p0.Key.length : Int))] ++ (nums p0.Key)).length ≤ room)) <|
    chk (decide ((([74, (IntKind.wrap .u8 p0.Kind), (IntKind.wrap .u8 (Int.fdiv p0.Unit (2 ^ 8))), (IntKind.wrap .u8 p0.Unit), (IntKind.wrap .u8 (p0.Key.length : Int))] ++ (nums p0.Key)) ++ [j1, (IntKind.wrap .u8 (Int.fdiv (p0.Text.length : Int) (2 ^ 8))), (IntKind.wrap .u8 (p0.Text.length : Int))]).length ≤ room)) <|
    chk (decide (((([74, (IntKind.wrap .u8 p0.Kind), (IntKind.wrap .u8 (Int.fdiv p0.Unit (2 ^ 8))), (IntKind.wrap .u8 p0.Unit), (IntKind.wrap .u8 (p0.Key.length : Int))] ++ (nums p0.Key)) ++ [j1, (IntKind.wrap .u8 (Int.fdiv (p0.Text.length : Int) (2 ^ 8))), (IntKind.wrap .u8 (p0.Text.length : Int))]) ++ (nums p0.Text)).length ≤ room)) <|
    some (bytes ((([74, (IntKind.wrap .u8 p0.Kind), (IntKind.wrap .u8 (Int.fdiv p0.Unit (2 ^ 8))), (IntKind.wrap .u8 p0.Unit), (IntKind.wrap .u8 (p0.Key.length : Int))] ++ (nums p0.Key)) ++ [j1, (IntKind.wrap .u8 (Int.fdiv (p0.Text.length : Int) (2 ^ 8))), (IntKind.wrap .u8 (p0.Text.length : Int))]) ++ (nums p0.Text)))) fun jp2 =>
  bif p0.Has then
    jp2 1
  else
    jp2 0
def Z423 (x0 : Note) : SV := .d (.int .u8 (IntKind.wrap .u8 (Int.fdiv x0.Unit (2 ^ 8))))
def Z424 (x0 : Note) : SV := .d (.int .u8 (IntKind.wrap .u8 x0.Unit))
def Z425 (x0 : Note) : SV := .own 1 (List.map (D.int .u8) [74, (IntKind.wrap .u8 x0.Kind), (IntKind.wrap .u8 (Int.fdiv x0.Unit (2 ^ 8))), (IntKind.wrap .u8 x0.Unit), (IntKind.wrap .u8 (x0.Key.length : Int))])
def Z426 (x0 : Note) : SV := .own 1 (List.map (D.int .u8) ([74, (IntKind.wrap .u8 x0.Kind), (IntKind.wrap .u8 (Int.fdiv x0.Unit (2 ^ 8))), (IntKind.wrap .u8 x0.Unit), (IntKind.wrap .u8 (x0.Key.length : Int))] ++ (nums x0.Key)))
def Z427 (x0 : Note) : SV := .d (.int .u8 (IntKind.wrap .u8 (Int.fdiv (x0.Text.length : Int) (2 ^ 8))))
def Z428 (x0 : Int) (x1 : Note) : SV := .own 1 (List.map (D.int .u8) [x0, (IntKind.wrap .u8 (Int.fdiv (x1.Text.length : Int) (2 ^ 8))), (IntKind.wrap .u8 (x1.Text.length : Int))])
def Z429 (x0 : Note) (x1 : Int) : SV := .own 1 (List.map (D.int .u8) (([74, (IntKind.wrap .u8 x0.Kind), (IntKind.wrap .u8 (Int.fdiv x0.Unit (2 ^ 8))), (IntKind.wrap .u8 x0.Unit), (IntKind.wrap .u8 (x0.Key.length : Int))] ++ (nums x0.Key)) ++ [x1, (IntKind.wrap .u8 (Int.fdiv (x0.Text.length : Int) (2 ^ 8))), (IntKind.wrap .u8 (x0.Text.length : Int))]))
def Z430 (x0 : Note) (x1 : Int) : SV := vS (bytes ((([74, (IntKind.wrap .u8 x0.Kind), (IntKind.wrap .u8 (Int.fdiv x0.Unit (2 ^ 8))), (IntKind.wrap .u8 x0.Unit), (IntKind.wrap .u8 (x0.Key.length : Int))] ++ (nums x0.Key)) ++ [x1, (IntKind.wrap .u8 (Int.fdiv (x0.Text.length : Int) (2 ^ 8))), (IntKind.wrap .u8 (x0.Text.length : Int))]) ++ (nums x0.Text)))
def Z431 (x0 : Note) (x1 : Int) : SV := .own 1 (List.map (D.int .u8) ((([74, (IntKind.wrap .u8 x0.Kind), (IntKind.wrap .u8 (Int.fdiv x0.Unit (2 ^ 8))), (IntKind.wrap .u8 x0.Unit), (IntKind.wrap .u8 (x0.Key.length : Int))] ++ (nums x0.Key)) ++ [x1, (IntKind.wrap .u8 (Int.fdiv (x0.Text.length : Int) (2 ^ 8))), (IntKind.wrap .u8 (x0.Text.length : Int))]) ++ (nums x0.Text)))
theorem j_body_ok {fuel : Nat} {p0 : Note} {r : (List UInt8)} (h : j_body fuel p0 = some r) : PC Try.prog 80 [.d (encNote p0)] (vS r) := by
  refine PC.of_SW Try.func80 rfl fun H => ?_
  unfold j_body at h
  refine SW.kp 44 H [0] [(0, Z29 p0)] (by kernel_rfl) <| SW.R 2 [(1, Z30 p0), (3, .d (.int .u8 0))] ?_
  obtain ⟨jp2, hjjp2, h⟩ := letJ_inv h
  refine SW.jn 44 H [1, 3] (fun (j1 : Int) => [(1, Z30 p0), (3, .d (.int .u8 j1))]) (fun v => jp2 v = some r) (fun j1 h => ?_) ?_
  · rw [hjjp2] at h
    refine SW.S <| OWk.G 12 [(1, Z30 p0), (3, .d (.int .u8 j1)), (9, Z390 p0), (13, Z423 p0), (16, Z424 p0), (18, vS p0.Key)] <| OWk.G 1 [(1, Z30 p0), (3, .d (.int .u8 j1)), (9, Z390 p0), (13, Z423 p0), (16, Z424 p0), (19, Z6 p0)] <| OWk.G 3 [(1, Z30 p0), (3, .d (.int .u8 j1)), (4, Z425 p0)] <| OWk.E <| SW.S <| OWk.sg 44 H [22] [1, 3, 22, 24] 3 [(1, Z30 p0), (3, .d (.int .u8 j1)), (22, Z425 p0), (24, vS p0.Key)] (by kernel_rfl) ?_
    obtain ⟨hk, h⟩ := chk_inv h
    refine OWk.app 44 H (s := 22) (d := 25) (w := 1) [1, 3, 25] (zs := List.map (D.int .u8) ([74, (IntKind.wrap .u8 p0.Kind), (IntKind.wrap .u8 (Int.fdiv p0.Unit (2 ^ 8))), (IntKind.wrap .u8 p0.Unit), (IntKind.wrap .u8 (p0.Key.length : Int))] ++ (nums p0.Key))) [(1, Z30 p0), (3, .d (.int .u8 j1)), (25, Z426 p0)] (ys := (byteDs p0.Key)) (by kernel_rfl) (map_appendS) (room_map hk) (by kernel_rfl) <| OWk.sg 44 H [22] [1, 3, 4] 1 [(1, Z30 p0), (3, .d (.int .u8 j1)), (4, Z426 p0)] (by kernel_rfl) <| OWk.E <| SW.S <| OWk.sg 44 H [26] [1, 26, 27, 29] 4 [(1, Z30 p0), (26, Z426 p0), (27, .d (.int .u8 j1)), (29, vS p0.Text)] (by kernel_rfl) <| OWk.G 1 [(1, Z30 p0), (26, Z426 p0), (27, .d (.int .u8 j1)), (30, Z5 p0)] <| OWk.sg 44 H [26] [1, 26, 27, 32, 34] 4 [(1, Z30 p0), (26, Z426 p0), (27, .d (.int .u8 j1)), (32, Z427 p0), (34, vS p0.Text)] (by kernel_rfl) <| OWk.G 1 [(1, Z30 p0), (26, Z426 p0), (27, .d (.int .u8 j1)), (32, Z427 p0), (35, Z5 p0)] <| OWk.sg 44 H [26] [1, 26, 37] 2 [(1, Z30 p0), (26, Z426 p0), (37, Z428 j1 p0)] (by kernel_rfl) ?_
    obtain ⟨hk, h⟩ := chk_inv h
    refine OWk.app 44 H (s := 26) (d := 38) (w := 1) [1, 38] (zs := List.map (D.int .u8) (([74, (IntKind.wrap .u8 p0.Kind), (IntKind.wrap .u8 (Int.fdiv p0.Unit (2 ^ 8))), (IntKind.wrap .u8 p0.Unit), (IntKind.wrap .u8 (p0.Key.length : Int))] ++ (nums p0.Key)) ++ [j1, (IntKind.wrap .u8 (Int.fdiv (p0.Text.length : Int) (2 ^ 8))), (IntKind.wrap .u8 (p0.Text.length : Int))])) [(1, Z30 p0), (38, Z429 p0 j1)] (ys := (List.map (D.int .u8) [j1, (IntKind.wrap .u8 (Int.fdiv (p0.Text.length : Int) (2 ^ 8))), (IntKind.wrap .u8 (p0.Text.length : Int))])) (by kernel_rfl) (map_append') (room_map hk) (by kernel_rfl) <| OWk.sg 44 H [26] [1, 4] 1 [(1, Z30 p0), (4, Z429 p0 j1)] (by kernel_rfl) <| OWk.E <| SW.S <| OWk.sg 44 H [39] [39, 41] 3 [(39, Z429 p0 j1), (41, vS p0.Text)] (by kernel_rfl) ?_
    obtain ⟨hk, h⟩ := chk_inv h
    refine OWk.app 44 H (s := 39) (d := 42) (w := 1) [42] (zs := List.map (D.int .u8) ((([74, (IntKind.wrap .u8 p0.Kind), (IntKind.wrap .u8 (Int.fdiv p0.Unit (2 ^ 8))), (IntKind.wrap .u8 p0.Unit), (IntKind.wrap .u8 (p0.Key.length : Int))] ++ (nums p0.Key)) ++ [j1, (IntKind.wrap .u8 (Int.fdiv (p0.Text.length : Int) (2 ^ 8))), (IntKind.wrap .u8 (p0.Text.length : Int))]) ++ (nums p0.Text))) [(42, Z431 p0 j1)] (ys := (byteDs p0.Text)) (by kernel_rfl) (map_appendS) (room_map hk) (by kernel_rfl) <| OWk.O (d := some 43) [(43, Z430 p0 j1)] (BAt.str (l := ((([74, (IntKind.wrap .u8 p0.Kind), (IntKind.wrap .u8 (Int.fdiv p0.Unit (2 ^ 8))), (IntKind.wrap .u8 p0.Unit), (IntKind.wrap .u8 (p0.Key.length : Int))] ++ (nums p0.Key)) ++ [j1, (IntKind.wrap .u8 (Int.fdiv (p0.Text.length : Int) (2 ^ 8))), (IntKind.wrap .u8 (p0.Text.length : Int))]) ++ (nums p0.Text))) (by kernel_rfl)) <| OWk.sg 44 H [39] [2] 1 [(2, Z430 p0 j1)] (by kernel_rfl) <| OWk.E <| SW.ret ?_
    cases h
    exact EndQ.ret [] (by kernel_rfl) rfl
  · refine SW.R 1 [(1, Z30 p0), (3, .d (.int .u8 0)), (6, vB p0.Has)] ?_
    refine SW.B p0.Has (fun hc => ?_) (fun hc => ?_)
    · replace h := bif_t hc h
      refine SW.regionK <| OWk.G 1 [(1, Z30 p0), (3, .d (.int .u8 1))] <| OWk.D ?_
      exact ⟨1, [], by kernel_rfl, h⟩
    · replace h := bif_f hc h
      refine SW.skip ?_
      exact ⟨0, [], by kernel_rfl, h⟩
theorem bld_check (k : Nat) (p v : Value) (w : World) (hb : w.heap[k]? = some (.cells #[p, v] 104 (0, 0))) (hp : p = .pointer none ∨ p = .pointer (some ⟨k, 0, none⟩)) :
    Calls Try.prog 89 #[.pointer (some ⟨k, 0, none⟩)] w fun e w' => e = .returned (.tuple #[]) ∧ (w' = w ∧ p = .pointer (some ⟨k, 0, none⟩) ∨ w' = w.setCell ⟨k, 0, none⟩ (.pointer (some ⟨k, 0, none⟩))) := by
  have h0 : w.cell? ⟨k, 0, none⟩ = some p := by rw [Lib.cell_of_heap hb]; rfl
  have hsh : w.shape? k = some (104, 2) := by simp [World.shape?, hb]
  have hfz : w.frozen? ⟨k, 0, none⟩ = false := by simp [World.frozen?, hb]
  have hsz : (Try.prog.info? 104).map (·.size) = some 2 := by kernel_rfl
  obtain ⟨j, hj, hjs⟩ := Option.map_eq_some_iff.1 hsz
  have t1 : Try.prog.underlying 102 = some (.pointer 104) := by kernel_rfl
  have t2 : Try.prog.underlying 129 = some .unsafePointer := by kernel_rfl
  rcases hp with rfl | rfl
  · go_enter Try.func89, Try.ntmps89
    go_wp2
    rw [Lib.run_to_unsafe w ⟨k, 0, none⟩ t1 t2 hj (by rw [hjs]; decide) hsh (Nat.zero_lt_succ 1)]
    simp only [Result.andThen]
    rw [Oper.upon_value]
    go_wp2
    rw [run_callFunc_extern Try.func94 (by kernel_rfl) (by kernel_rfl) (by kernel_rfl) (e := Extern.AbiNoEscape.same) (by kernel_rfl)]
    rw [Lib.run_noEscape]
    simp only [Result.andThen]
    rw [Oper.upon_value]
    go_wp2
    rw [Lib.run_from_unsafe w ⟨k, 0, none⟩ t2 t1 hj hsh (by kernel_rfl)]
    simp only [Result.andThen]
    rw [Oper.upon_value]
    go_wp2
    go_end0
    exact ⟨rfl, .inr rfl⟩
  · go_enter Try.func89, Try.ntmps89
    go_wp2
    rw [Lib.run_neq_ptr_same w _ t1 hj]
    go_wp2
    go_end0
    exact ⟨rfl, .inl ⟨rfl, trivial⟩⟩
theorem run_append_bld {P : Program} {w : World} (t u ty e : TypeId) (i : TypeInfo) (ht : P.underlying t = some (.slice e)) (hu : P.underlying u = some .string) (hi : P.info? e = some i) (hz : i.zero = some (.int .u8 0))
    (hsize : i.size = 1) (hby : i.bytes = 1) (v : Value) (n : Nat) (xs : List Value) (hown : w.ownsRowF 0 e 1 v n xs) (s : ByteArray) (h63 : n + s.size ≤ maxLen) (hbytes : n + s.size ≤ 140737488355328) :
    ∃ v' w', (Builtin.append_ #[t, u] ty #[v, .string s]).run P w = .ok v' w' ∧ w'.ownsRowF 0 e 1 v' (n + s.size) (xs ++ Lib.strCells s) ∧ w.grownBy w' v.ownBlock ∧
      (v' = .slice none 0 0 ↔ v = .slice none 0 0 ∧ s.size = 0) ∧ ∀ r, v'.ownBlock = some r → v.ownBlock = some r ∨ w.heap.size ≤ r := by
  rcases hown.2 with ⟨rfl, rfl⟩ | ⟨g, cap, cur, fz, rfl, hbg, hg, hfz, hnc, hcm, hcs, htake⟩
  · obtain ⟨v', w', h1, h2, h3, h4⟩ := Lib.run_append_own_string (P := P) w w.heap.size t u ty e i ht hu hi hz hsize hby (.slice none 0 0) 0 xs ⟨hown.1, .inl ⟨rfl, rfl⟩⟩ s h63 hbytes (Nat.le_refl _)
    refine ⟨v', w', h1, ?_, h3, h4, fun r hr => ?_⟩
    · have h2' := World.ownsRowF_of h2
      refine ⟨h2'.1, ?_⟩
      rcases h2'.2 with h | ⟨g, cap, cur, fz, a1, a2, a3⟩
      · exact .inl h
      · exact .inr ⟨g, cap, cur, fz, a1, Nat.zero_le _, a3⟩
    · rcases h2.2 with ⟨rfl, _⟩ | ⟨g, cap, cur, rfl, a2, a3⟩
      · simp [Value.ownBlock] at hr
      · simp [Value.ownBlock] at hr; subst hr; exact .inr a2
  · have hxl : xs.length = n := by simpa using hown.1
    have hlen : (xs ++ Lib.strCells s).length = (n + s.size) * 1 := by rw [List.length_append, hxl, Lib.strCells_length, Nat.mul_one]
    by_cases hroom : n + s.size ≤ cap
    · have hcs' : cur.size = cap := by simpa using hcs
      have hr := Lib.run_append_room_stringF (P := P) w t u ty e i ht hu hi hsize g n cap cur fz hg (by simpa using hfz) s hroom (by unfold maxLen at h63; omega)
      refine ⟨_, _, hr, ⟨hlen, .inr ⟨g, cap, _, fz, rfl, hbg, setRow_heap w g cur _ e _ hg, by omega, hroom, hcm, ?_, ?_⟩⟩, ⟨rfl, rfl, rfl, by simp, fun k _ hk => setRow_other w g k _ (fun e => hk (by simp [Value.ownBlock, e]))⟩, by simp, fun r hr => .inl hr⟩
      · simp only [List.size_toArray, List.length_append, List.length_take, List.length_drop, Array.length_toList, Lib.strCells_length]
        omega
      · have ht' : cur.toList.take n = xs := by simpa using htake
        rw [ht', ← hlen]
        exact List.take_left
    · have holds : ∀ j u, xs[j]? = some u → w.cell? ((⟨g, 0, none⟩ : Addr).add j) = some u := hown.cells (g := g) rfl
      have hr := Lib.run_append_grow_string (P := P) w t u ty e i (.int .u8 0) ht hu hi hz ⟨g, 0, none⟩ n cap xs (by rw [hsize]; simpa using hxl) holds s (by unfold maxLen at h63; omega) (by omega) (by rw [hby]; exact growslice_fits (by omega) (by omega))
      have hge := grownCap_ge w (n + s.size) cap e
      have hcm2 : grownCap w (n + s.size) cap e ≤ maxLen := grownCap_le_maxLen w (n + s.size) cap e h63
      refine ⟨_, _, hr, ⟨hlen, .inr ⟨w.heap.size, _, _, (0, 0), rfl, Nat.zero_le _, heap_alloc_new w.drew _, Nat.zero_le _, hge, hcm2, ?_, ?_⟩⟩, ⟨rfl, rfl, rfl, by simp, fun k hk _ => heap_alloc_old w.drew _ hk⟩, by simp, fun r hr => .inr (by simp [Value.ownBlock] at hr; omega)⟩
      · have hz1 : (Value.int IntKind.u8 0).cells.size = 1 := rfl
        simp only [Array.size_append, List.size_toArray, size_zeroCells, hz1, hxl, Lib.strCells_length]
        omega
      · simp only [Array.toList_append, List.append_assoc]
        rw [← List.append_assoc, ← hlen]
        exact List.take_left
theorem wpList_append_bld {P : Program} {w : World} {ops : Array Oper} {rest : List Oper} {o : Oper} {a : Act} {Q : Exit → Act → World → Prop} (hgd : o.guard = none) (sl x : Operand) (t u : TypeId)
    (ho : o.op = .call { callee := .builtin .append, args := #[sl, x], argTypes := #[t, u] })
    (e : TypeId) (i : TypeInfo) (ht : P.underlying t = some (.slice e)) (hu : P.underlying u = some .string) (hi : P.info? e = some i) (hz : i.zero = some (.int .u8 0))
    (hsize : i.size = 1) (hby : i.bytes = 1)
    (v : Value) (n : Nat) (xs : List Value) (hs : a.eval sl = v) (hown : w.ownsRowF 0 e 1 v n xs) (s : ByteArray) (hx : a.eval x = .string s)
    (h63 : n + s.size ≤ maxLen) (hbytes : n + s.size ≤ 140737488355328)
    (h : ∀ v' w', w'.ownsRowF 0 e 1 v' (n + s.size) (xs ++ Lib.strCells s) → w.grownBy w' v.ownBlock → (v' = .slice none 0 0 ↔ v = .slice none 0 0 ∧ s.size = 0) → (∀ r, v'.ownBlock = some r → v.ownBlock = some r ∨ w.heap.size ≤ r) → wpList P ops Q rest (a.put o.dst v') w') : wpList P ops Q (o :: rest) a w := by
  refine wpList_plain hgd fun K hK => ?_
  obtain ⟨v', w', hr, h2, h3, h4, h5⟩ := run_append_bld (P := P) (w := w) t u o.type e i ht hu hi hz hsize hby v n xs hown s h63 hbytes
  unfold Oper.wp execOp
  simp only [ho, resolve, invoke, builtin, Sem.run_bind, Sem.run_pure, Result.andThen_ok, List.map_toArray, List.map_cons, List.map_nil, hs, hx, hr]
  exact hK _ _ (h v' w' h2 h3 h4 h5)
theorem bld_ne {w : World} {k : Nat} {p v v0 : Value} {n : Nat} {xs : List Value} (hb : w.heap[k]? = some (.cells #[p, v0] 104 (0, 0))) (hown : w.ownsRowF 0 5 1 v n xs) : v.ownBlock ≠ some k := Lib.ownBlock_neF hown hb (by decide)
theorem bld_write (k : Nat) (p v : Value) (bs : List Value) (s : ByteArray) (w : World) (hb : w.heap[k]? = some (.cells #[p, v] 104 (0, 0))) (hp : p = .pointer none ∨ p = .pointer (some ⟨k, 0, none⟩))
    (hown : w.ownsRowF 0 5 1 v bs.length bs) (hlen : bs.length + s.size ≤ 140737488355328) :
    Calls Try.prog 81 #[.pointer (some ⟨k, 0, none⟩), .string s] w fun e w' => e = .returned (.tuple #[.int .i64 s.size, .nilIface]) ∧ ∃ v', w'.heap[k]? = some (.cells #[.pointer (some ⟨k, 0, none⟩), v'] 104 (0, 0)) ∧
      w'.ownsRowF 0 5 1 v' (bs.length + s.size) (bs ++ Lib.strCells s) ∧ (v' = .slice none 0 0 ↔ v = .slice none 0 0 ∧ s.size = 0) ∧ (∀ r, v'.ownBlock = some r → v.ownBlock = some r ∨ w.heap.size ≤ r) ∧
      w.heap.size ≤ w'.heap.size ∧ SameOs w w' ∧ ∀ j, j < w.heap.size → j ≠ k → v.ownBlock ≠ some j → w'.heap[j]? = w.heap[j]? := by
  have hib : (Try.prog.info? 5).map (fun i => (i.zero, i.size, i.bytes)) = some (some (.int .u8 0), 1, 1) := by kernel_rfl
  have t53 : Try.prog.underlying 53 = some (.slice 5) := by kernel_rfl
  have t9 : Try.prog.underlying 9 = some .string := by kernel_rfl
  obtain ⟨i0, hi, hie⟩ := Option.map_eq_some_iff.1 hib
  simp only [Prod.mk.injEq] at hie
  obtain ⟨hz0, hz1, hz2⟩ := hie
  have hlt : k < w.heap.size := (Array.getElem?_eq_some_iff.1 hb).1
  go_enter Try.func81, Try.ntmps81
  go_wp2_with (go_at_call 89; refine (bld_check k p v _ hb hp).mono ?_)
  rintro e w1 ⟨rfl, hw1⟩
  have hb1 : w1.heap[k]? = some (.cells #[.pointer (some ⟨k, 0, none⟩), v] 104 (0, 0)) := by
    rcases hw1 with ⟨rfl, rfl⟩ | rfl
    · exact hb
    · simp [World.setCell, Array.getElem?_modify, hb]
  have hs1 : w1.heap.size = w.heap.size := by
    rcases hw1 with ⟨rfl, rfl⟩ | rfl
    · rfl
    · simp [World.setCell]
  have ho1 : SameOs w w1 := by
    rcases hw1 with ⟨rfl, rfl⟩ | rfl
    · exact ⟨rfl, rfl⟩
    · exact ⟨rfl, rfl⟩
  have hk1 : ∀ j, j ≠ k → w1.heap[j]? = w.heap[j]? := fun j hj => by
    rcases hw1 with ⟨rfl, rfl⟩ | rfl
    · rfl
    · simp [World.setCell, Array.getElem?_modify, hj, Ne.symm hj]
  have hne := bld_ne hb hown
  have hown1 : w1.ownsRowF 0 5 1 v bs.length bs := by
    refine ⟨hown.1, ?_⟩
    rcases hown.2 with h | ⟨g, cap, cur, fz, a1, a2, a3, a4⟩
    · exact .inl h
    · exact .inr ⟨g, cap, cur, fz, a1, a2, by rw [hk1 g (fun e => hne (by rw [a1, ← e]; rfl))]; exact a3, a4⟩
  clear hw1
  have c0 : w1.cell? ⟨k, 0, none⟩ = some (.pointer (some ⟨k, 0, none⟩)) := by rw [Lib.cell_of_heap hb1]; rfl
  have c1 : w1.cell? ⟨k, 1, none⟩ = some v := by rw [Lib.cell_of_heap hb1]; rfl
  go_wp2_with (at_builtin; refine wpList_append_bld rfl _ _ 53 9 rfl 5 i0 t53 t9 hi hz0 hz1 hz2 _ _ _ rfl hown1 s rfl ?c3 ?c4 ?_)
  case c3 => unfold maxLen; omega
  case c4 => omega
  intro v' w2 hown' hgrow hnil hrow
  have hb2 : w2.heap[k]? = some (.cells #[.pointer (some ⟨k, 0, none⟩), v] 104 (0, 0)) := by
    rw [hgrow.block k (by omega) (fun e => hne e.symm)]
    exact hb1
  have d0 : w2.cell? ⟨k, 0, none⟩ = some (.pointer (some ⟨k, 0, none⟩)) := by rw [Lib.cell_of_heap hb2]; rfl
  have d1 : w2.cell? ⟨k, 1, none⟩ = some v := by rw [Lib.cell_of_heap hb2]; rfl
  have f1 : w2.frozen? ⟨k, 1, none⟩ = false := Lib.frozen_of_heap hb2 1
  obtain ⟨ao, n', cap, rfl⟩ : ∃ ao n' cap, v' = .slice ao n' cap := by
    rcases hown'.2 with ⟨hv, _⟩ | ⟨g, cap, cur, fz, hv, _⟩
    · exact ⟨_, _, _, hv⟩
    · exact ⟨_, _, _, hv⟩
  go_wp2
  go_ret2
  have hb3 : (w2.setCell ⟨k, 1, none⟩ (.slice ao n' cap)).heap[k]? = some (.cells #[.pointer (some ⟨k, 0, none⟩), .slice ao n' cap] 104 (0, 0)) := by
    simp [World.setCell, Array.getElem?_modify, hb2]
  have hne' : (Value.slice ao n' cap).ownBlock ≠ some k := bld_ne hb2 hown'
  have hk3 : ∀ j, j ≠ k → (w2.setCell ⟨k, 1, none⟩ (.slice ao n' cap)).heap[j]? = w2.heap[j]? := fun j hj => by simp [World.setCell, Array.getElem?_modify, hj, Ne.symm hj]
  have hs3 : (w2.setCell ⟨k, 1, none⟩ (.slice ao n' cap)).heap.size = w2.heap.size := by simp [World.setCell]
  refine ⟨rfl, .slice ao n' cap, hb3, ⟨hown'.1, ?_⟩, by simpa using hnil, fun r hr => ?_, by rw [hs3, ← hs1]; exact hgrow.size, ⟨hgrow.os.trans ho1.1, hgrow.output.trans ho1.2⟩, fun j h1 h2 h3 => ?_⟩
  · rcases hown'.2 with h | ⟨g, cap, cur, fz, a1, a2, a3, a4⟩
    · exact .inl h
    · exact .inr ⟨g, cap, cur, fz, a1, a2, by rw [hk3 g (fun e => hne' (by rw [a1, ← e]; rfl))]; exact a3, a4⟩
  · rcases hrow r hr with h | h
    · exact .inl h
    · exact .inr (by omega)
  · rw [hk3 j h2, hgrow.block j (by omega) (fun e => h3 e.symm), hk1 j h2]
theorem bld_string0 (k : Nat) (p : Value) (w : World) (hb : w.heap[k]? = some (.cells #[p, .slice none 0 0] 104 (0, 0))) :
    Calls Try.prog 82 #[.pointer (some ⟨k, 0, none⟩)] w fun e w' => e = .returned (.string ⟨#[]⟩) ∧ w' = w.drew := by
  have c1 : w.drew.cell? ⟨k, 1, none⟩ = some (.slice none 0 0) := by
    have : w.drew.heap[k]? = some (.cells #[p, .slice none 0 0] 104 (0, 0)) := hb
    rw [Lib.cell_of_heap this]; rfl
  have hSD : (Builtin.unsafeSliceData_ #[53] 124 #[.slice none 0 0]).run Try.prog w.drew = .ok (.pointer none) w.drew := rfl
  have hUS : (Builtin.unsafeString_ #[124, 3] 9 #[.pointer none, .int .i64 0]).run Try.prog w.drew = .ok (.string ⟨#[]⟩) w.drew := rfl
  go_enter Try.func82, Try.ntmps82
  go_wp2
  go_region
  all_goals (go_wp2; go_ret; exact ⟨rfl, rfl⟩)
theorem bld_string (k r cap : Nat) (p : Value) (l : List UInt8) (cur : Array Value) (fz : Nat × Nat) (w : World) (hb : w.heap[k]? = some (.cells #[p, .slice (some ⟨r, 0, none⟩) l.length cap] 104 (0, 0))) (h0 : l ≠ [])
    (hg : w.heap[r]? = some (.cells cur 5 fz)) (hnc : l.length ≤ cap) (hcm : cap ≤ maxLen) (hcs : cur.size = cap) (ht : cur.toList.take l.length = Lib.byteCells l) :
    Calls Try.prog 82 #[.pointer (some ⟨k, 0, none⟩)] w fun e w' => e = .returned (.string ⟨l.toArray⟩) ∧ w' = w.drew.freeze ⟨r, 0, none⟩ l.length := by
  have hl0 : l.length ≠ 0 := by simpa using h0
  have c1 : w.drew.cell? ⟨k, 1, none⟩ = some (.slice (some ⟨r, 0, none⟩) l.length cap) := by
    have : w.drew.heap[k]? = some (.cells #[p, .slice (some ⟨r, 0, none⟩) l.length cap] 104 (0, 0)) := hb
    rw [Lib.cell_of_heap this]; rfl
  have t124 : Try.prog.underlying 124 = some (.pointer 5) := by kernel_rfl
  have cb : Try.prog.cellsOf 5 = 1 := by kernel_rfl
  have hSD : (Builtin.unsafeSliceData_ #[53] 124 #[.slice (some ⟨r, 0, none⟩) l.length cap]).run Try.prog w.drew = .ok (.pointer (some ⟨r, 0, none⟩)) w.drew :=
    Lib.run_unsafeSliceData_row _ _ _ _ _ _ (by omega)
  have hUS : (Builtin.unsafeString_ #[124, 3] 9 #[.pointer (some ⟨r, 0, none⟩), .int .i64 l.length]).run Try.prog w.drew = .ok (.string ⟨l.toArray⟩) (w.drew.freeze ⟨r, 0, none⟩ l.length) := by
    refine Lib.run_unsafeString_row w.drew 124 3 9 5 t124 cb r cur.size (by have hg' : w.drew.heap[r]? = some (.cells cur 5 fz) := hg; simp [World.shape?, hg']) l h0 (by omega) (by unfold maxLen at hcm; omega) ?_
    intro j x hx
    have hj : j < l.length := (List.getElem?_eq_some_iff.1 hx).1
    have e1 : (cur.toList.take l.length)[j]? = some (.int .u8 x.toNat) := by rw [ht]; simp [Lib.byteCells, hx]
    rw [List.getElem?_take, if_pos hj] at e1
    have hg' : w.drew.heap[r]? = some (.cells cur 5 fz) := hg
    by_cases hj0 : j = 0
    · subst hj0; simpa [World.cell?, Addr.add, hg'] using e1
    · simpa [World.cell?, Addr.add, hg', hj0] using e1
  go_enter Try.func82, Try.ntmps82
  go_wp2
  go_region
  all_goals (go_wp2; go_ret; exact ⟨rfl, rfl⟩)
def strings_Builder_WriteString (fuel : Nat) (p0 : Nat) (p1 : List UInt8) (H : Hp) : Option (Pn ((Int) × Hp)) :=
  (hBld 104 5 H p0).bind fun bs => chk (decide ((bs ++ p1).length ≤ room)) <| some (.ok ((p1.length : Int), H.set p0 (.bld 104 5 (bs ++ p1))))
def strings_Builder_String (fuel : Nat) (p0 : Nat) (H : Hp) : Option (Pn ((List UInt8) × Hp)) :=
  (hBld 104 5 H p0).bind fun bs => some (.ok (bs, H))
theorem strings_Builder_WriteString_ok {fuel : Nat} {p0 : Nat} {p1 : List UInt8} {H : Hp} {r : Pn ((Int) × Hp)} (h : strings_Builder_WriteString fuel p0 p1 H = some r) :
    SB Try.prog 81 [.d (.ptr p0 0), vS p1] H (Pn.sv (fun (x : Int) => (.tup [vI x, .d (.nilIface)])) r) := by
  unfold strings_Builder_WriteString at h
  obtain ⟨bs, hb, h⟩ := bind_inv h
  obtain ⟨hk, h⟩ := chk_inv h
  cases h
  have hi := hBld_eq hb
  have hroom : bs.length + p1.length ≤ 16777216 := by
    have := of_decide_eq_true hk
    simpa [room] using this
  intro w g vs hA hH
  obtain ⟨hA1, hA2⟩ := hA
  obtain ⟨v0, e0, r0⟩ := hA2 0 _ rfl
  obtain ⟨v1, e1, r1⟩ := hA2 1 _ rfl
  have hvs : vs = #[v0, v1] := by
    apply Array.ext_getElem?
    intro j
    match j with
    | 0 => simpa using e0
    | 1 => simpa using e1
    | j + 2 => rw [Array.getElem?_eq_none (by simp at hA1; omega)]; simp
  subst hvs
  obtain ⟨k, p, v, f1, f2, f3⟩ := hH.2 p0 _ hi
  obtain ⟨rfl⟩ : v0 = .pointer (some ⟨k, 0, none⟩) := by
    cases (show Rd g w v0 (.ptr p0 0) from r0) with
    | ptr h => rw [f1] at h; cases h; rfl
  obtain ⟨rfl⟩ : v1 = .string (mk p1) := by
    cases (show Rd g w v1 (.str p1) from r1) with
    | str => rfl
  have hown := f3.owns
  have hbl : (Lib.byteCells bs).length = bs.length := Lib.byteCells_length bs
  have hsz : (mk p1).size = p1.length := rfl
  refine (bld_write k p v (Lib.byteCells bs) (mk p1) w f3.1 f3.2.1 (by rw [hbl]; exact hown) (by rw [hbl, hsz]; omega)).mono fun e w' hh => ?_
  obtain ⟨rfl, v', c1, c2, c3, c4, c5, c6, c7⟩ := hh
  have c2' : w'.ownsRowF 0 5 1 v' (bs ++ p1).length (Lib.byteCells (bs ++ p1)) := by
    have e1 : Lib.byteCells bs ++ Lib.strCells (mk p1) = Lib.byteCells (bs ++ p1) := by simp [Lib.byteCells, Lib.strCells, mk]
    rw [← e1, List.length_append, ← hsz, ← hbl]
    exact c2
  obtain ⟨g', k1, k2⟩ := hH.bld_upd hi f1 f2 f3 c5 c6 c7 c1 (.inr rfl) (bld_ne c1 c2') c2' (by
    by_cases hn : bs ++ p1 = []
    · refine .inl (c3.2 ⟨?_, ?_⟩)
      · rcases f3.2.2 with ⟨h1, h2⟩ | ⟨r, cap, cur, fz, x1, x2, _⟩
        · exact h1
        · simp at hn; exact absurd hn.1 x2
      · simp at hn; rw [hsz, hn.2]; rfl
    · exact .inr hn) c4
  refine ⟨_, g', rfl, ?_, k1, k2⟩
  refine ⟨_, rfl, rfl, fun j s hj => ?_⟩
  match j with
  | 0 => simp at hj; subst hj; exact ⟨_, rfl, by rw [hsz]; exact .int⟩
  | 1 => simp at hj; subst hj; exact ⟨_, rfl, .nilIface⟩
  | j + 2 => simp at hj
theorem heap_freeze {w : World} {r n j : Nat} {cur : Array Value} {e : TypeId} {fz : Nat × Nat} (hg : w.heap[r]? = some (.cells cur e fz)) (h0 : n ≠ 0) (hfz : fz.2 ≤ n) :
    (∃ fz', (w.freeze ⟨r, 0, none⟩ n).heap[r]? = some (.cells cur e fz') ∧ fz'.2 ≤ n) ∧ (w.freeze ⟨r, 0, none⟩ n).heap.size = w.heap.size ∧ (∀ j, j ≠ r → (w.freeze ⟨r, 0, none⟩ n).heap[j]? = w.heap[j]?) := by
  unfold World.freeze
  rw [if_neg h0]
  refine ⟨?_, by simp, fun j hj => by simp [Array.getElem?_modify, Ne.symm hj]⟩
  obtain ⟨lo, hi⟩ := fz
  simp only [Array.getElem?_modify, ↓reduceIte, hg, Option.map_some]
  refine ⟨_, rfl, ?_⟩
  simp only at hfz
  split <;> simp <;> omega
theorem strings_Builder_String_ok {fuel : Nat} {p0 : Nat} {H : Hp} {r : Pn ((List UInt8) × Hp)} (h : strings_Builder_String fuel p0 H = some r) :
    SB Try.prog 82 [.d (.ptr p0 0)] H (Pn.sv (fun (x : List UInt8) => (vS x)) r) := by
  unfold strings_Builder_String at h
  obtain ⟨bs, hb, h⟩ := bind_inv h
  cases h
  have hi := hBld_eq hb
  intro w g vs hA hH
  obtain ⟨hA1, hA2⟩ := hA
  obtain ⟨v0, e0, r0⟩ := hA2 0 _ rfl
  have hvs : vs = #[v0] := by
    apply Array.ext_getElem?
    intro j
    match j with
    | 0 => simpa using e0
    | j + 1 => rw [Array.getElem?_eq_none (by simp at hA1; omega)]; simp
  subst hvs
  obtain ⟨k, p, v, f1, f2, f3⟩ := hH.2 p0 _ hi
  obtain ⟨rfl⟩ : v0 = .pointer (some ⟨k, 0, none⟩) := by
    cases (show Rd g w v0 (.ptr p0 0) from r0) with
    | ptr h => rw [f1] at h; cases h; rfl
  have hset : H.set p0 (.bld 104 5 bs) = H := by
    apply List.ext_getElem?
    intro j
    by_cases e : p0 = j
    · subst e; rw [List.getElem?_set_self (get_lt hi), hi]
    · rw [List.getElem?_set_ne e]
  rcases f3.2.2 with ⟨rfl, rfl⟩ | ⟨rr, cap, cur, fz, c1, c2, c3, c4, c5, c6, c7, c8, c9⟩
  · refine (bld_string0 k p w f3.1).mono fun e w' hh => ?_
    obtain ⟨rfl, rfl⟩ := hh
    obtain ⟨g', k1, k2⟩ := hH.bld_upd (w' := w.drew) (bs' := []) hi f1 f2 f3 (Nat.le_refl _) ⟨rfl, rfl⟩ (fun j _ _ _ => rfl) f3.1 f3.2.1 (by simp [Value.ownBlock]) f3.owns (.inl rfl) (fun r hr => .inl hr)
    rw [hset] at k1
    exact ⟨_, g', rfl, .str (l := []), k1, k2⟩
  · subst c1
    have hl : bs.length ≠ 0 := by simpa using c2
    have hdr : w.drew.heap[rr]? = some (.cells cur 5 fz) := c4
    refine (bld_string k rr cap p bs cur fz w f3.1 c2 c4 c6 c7 c8 c9).mono fun e w' hh => ?_
    obtain ⟨rfl, rfl⟩ := hh
    obtain ⟨⟨fz', x1, x2⟩, x3, x4⟩ := heap_freeze (j := 0) hdr hl c5
    have hkr : k ≠ rr := fun e => by rw [← e] at c3; rw [f2] at c3; cases c3
    obtain ⟨g', k1, k2⟩ := hH.bld_upd (w' := w.drew.freeze ⟨rr, 0, none⟩ bs.length) (bs' := bs) hi f1 f2 f3 (by rw [x3]; exact Nat.le_refl _) ⟨by unfold World.freeze; split <;> rfl, by unfold World.freeze; split <;> rfl⟩
      (fun j _ _ h3 => x4 j (fun e => h3 (by rw [e]; rfl))) (by rw [x4 k hkr]; exact f3.1) f3.2.1 (by simp [Value.ownBlock]; exact fun e => hkr e.symm)
      ⟨by simp [Lib.byteCells], .inr ⟨rr, cap, cur, fz', rfl, Nat.zero_le _, x1, by omega, c6, c7, by omega, by rw [Nat.mul_one]; exact c9⟩⟩ (.inr c2) (fun r hr => .inl hr)
    rw [hset] at k1
    exact ⟨_, g', rfl, .str (l := bs), k1, k2⟩
def j_written_l1 (fuel : Nat) (p1 : (List Note)) (q1 : (Hp × Nat)) (y2 : Int × Int × Hp) : Option ((Int × Int × Hp) ⊕ (Hp)) :=
  bif (decide (y2.2.1 < (p1.length : Int))) then
    (idx p1 y2.2.1).bind fun x3 =>
    (j_body fuel x3).bind fun r4 =>
    (j_Sum fuel y2.1 r4).bind fun r5 =>
    (strings_Builder_WriteString fuel q1.2 r4 y2.2.2).bind fun o =>
    Pn.el (fun r6 =>
      (j_eight fuel r5).bind fun r7 =>
      (strings_Builder_WriteString fuel q1.2 r7 r6.2).bind fun o =>
      Pn.el (fun r8 =>
        some (.inl (r5, (IntKind.wrap .i64 (y2.2.1 + 1)), r8.2)))
      (fun bt bH => none) o)
    (fun bt bH => none) o
  else
    some (.inr y2.2.2)
def j_written (fuel : Nat) (p0 : Int) (p1 : (List Note)) : Option ((List UInt8)) :=
  (hNew [] (.bld 104 5 [])).bind fun q1 =>
  (iter (j_written_l1 fuel p1 q1) fuel (p0, 0, q1.1)).bind fun v10 =>
  (strings_Builder_String fuel q1.2 v10).bind fun o =>
  Pn.el (fun r11 =>
    some r11.1)
  (fun bt bH => none) o
def Z432 (x0 : Int × Int × Hp) (x1 : (List Note)) : SV := vB (decide (x0.2.1 < (x1.length : Int)))
def Z433 (x0 : Int × Int × Hp) : SV := vI (IntKind.wrap .i64 (x0.2.1 + 1))
theorem j_written_ok {fuel : Nat} {p0 : Int} {p1 : (List Note)} {r : (List UInt8)} (h : j_written fuel p0 p1 = some r) : PC Try.prog 61 [.d (.int .u64 p0), .d (.list 5 (List.map encNote p1))] (vS r) := by
  refine PC.of_localSW Try.func61 rfl (by simp [noPtrSV, noPtr, noPtrs, vI, vB, vS, noPtrs_map (f := encNote) encNote_np]) (by simp [noPtrSV, noPtr, noPtrs, vI, vB, vS]) ?_
  unfold j_written at h
  refine SW.kp 27 [] [0, 1] [(0, .d (.int .u64 p0)), (1, Z1 p1)] (by kernel_rfl) <| SW.R 1 [(0, .d (.int .u64 p0)), (1, Z1 p1)] <| SW.S ?_
  obtain ⟨q1, hq, h⟩ := bind_inv h
  refine OWk.nbld 27 q1.1 (d := some 5) 5 [0, 1, 5] [(0, .d (.int .u64 p0)), (1, Z1 p1), (5, .d (.ptr q1.2 0))] hq (by kernel_rfl) rfl (by kernel_rfl) <| OWk.E <| SW.seq <| SW.S <| OWk.G 1 [(0, .d (.int .u64 p0)), (5, .d (.ptr q1.2 0)), (9, Z1 p1)] <| OWk.O (d := some 10) [(0, .d (.int .u64 p0)), (5, .d (.ptr q1.2 0)), (9, Z1 p1), (10, vI (p1.length : Int))] (BAt.len (enc := encNote) (xs := p1) (by kernel_rfl)) <| OWk.G 1 [(0, .d (.int .u64 p0)), (5, .d (.ptr q1.2 0)), (9, Z1 p1), (10, vI (p1.length : Int)), (11, vI 0)] <| OWk.E <| SW.block ?_
  obtain ⟨v10, hit, h⟩ := bind_inv h
  refine SW.itH 27 [0, 5, 9, 10, 11] (fun y2 => [(0, .d (.int .u64 y2.1)), (5, .d (.ptr q1.2 0)), (9, Z1 p1), (10, vI (p1.length : Int)), (11, vI y2.2.1)]) (fun y2 => y2.2.2) (fun v10 e s => (e = .exit 0 ∧ s = (sp 27 [(5, .d (.ptr q1.2 0))] v10))) hit (by kernel_rfl) (fun y2 o h => ?_) ?_
  · unfold j_written_l1 at h
    refine SW.R 1 [(0, .d (.int .u64 y2.1)), (5, .d (.ptr q1.2 0)), (9, Z1 p1), (10, vI (p1.length : Int)), (11, vI y2.2.1), (12, Z432 y2 p1)] <| SW.seq ?_
    refine SW.B (decide (y2.2.1 < (p1.length : Int))) (fun hc => ?_) (fun hc => ?_)
    · replace h := bif_t hc h
      refine SW.skip <| thenS_n <| SW.seq <| SW.block <| SW.S ?_
      obtain ⟨x3, hx, h⟩ := bind_inv h
      refine OWk.O (d := some 13) (s := lendP none (Go.Sh.D.cells (encNote x3))) [(0, .d (.int .u64 y2.1)), (5, .d (.ptr q1.2 0)), (9, Z1 p1), (10, vI (p1.length : Int)), (11, vI y2.2.1), (13, .d (.dptr [.int .i64 x3.Kind, .int .i64 x3.Unit, .str x3.Key, .bool x3.Has, .str x3.Text]))] (BAt.index (n := 5) hx (by kernel_rfl)) <| OWk.G 3 [(0, .d (.int .u64 y2.1)), (5, .d (.ptr q1.2 0)), (7, Z30 x3), (9, Z1 p1), (10, vI (p1.length : Int)), (11, vI y2.2.1)] <| OWk.E <| SW.S <| OWk.G 1 [(0, .d (.int .u64 y2.1)), (5, .d (.ptr q1.2 0)), (9, Z1 p1), (10, vI (p1.length : Int)), (11, vI y2.2.1), (15, Z29 x3)] ?_
      obtain ⟨r4, hr, h⟩ := bind_inv h
      refine OWk.C0 (some 16) [(0, .d (.int .u64 y2.1)), (5, .d (.ptr q1.2 0)), (9, Z1 p1), (10, vI (p1.length : Int)), (11, vI y2.2.1), (16, vS r4)] (j_body_ok hr) <| OWk.G 1 [(0, .d (.int .u64 y2.1)), (5, .d (.ptr q1.2 0)), (8, vS r4), (9, Z1 p1), (10, vI (p1.length : Int)), (11, vI y2.2.1)] <| OWk.E <| SW.S <| OWk.G 2 [(5, .d (.ptr q1.2 0)), (8, vS r4), (9, Z1 p1), (10, vI (p1.length : Int)), (11, vI y2.2.1), (17, .d (.int .u64 y2.1)), (18, vS r4)] ?_
      obtain ⟨r5, hr, h⟩ := bind_inv h
      refine OWk.C0 (some 19) [(5, .d (.ptr q1.2 0)), (8, vS r4), (9, Z1 p1), (10, vI (p1.length : Int)), (11, vI y2.2.1), (19, .d (.int .u64 r5))] (j_Sum_ok hr) <| OWk.G 1 [(0, .d (.int .u64 r5)), (5, .d (.ptr q1.2 0)), (8, vS r4), (9, Z1 p1), (10, vI (p1.length : Int)), (11, vI y2.2.1)] <| OWk.E <| SW.seq <| SW.regionOT <| OTk.M 1 <| OWk.G 1 [(0, .d (.int .u64 r5)), (5, .d (.ptr q1.2 0)), (9, Z1 p1), (10, vI (p1.length : Int)), (11, vI y2.2.1), (20, vS r4)] <| OWk.D ?_
      obtain ⟨o, hr, h⟩ := bind_inv h
      rcases o with r6 | ⟨bt, bH⟩
      · replace h := pn_ok h
        refine OTk.M 2 <| OWk.CH (some 21) [(0, .d (.int .u64 r5)), (5, .d (.ptr q1.2 0)), (9, Z1 p1), (10, vI (p1.length : Int)), (11, vI y2.2.1)] (SB.sc (strings_Builder_WriteString_ok hr)) <| OWk.D <| OTk.D <| thenS_n <| SW.regionOT <| OTk.M 1 <| OWk.G 1 [(0, .d (.int .u64 r5)), (5, .d (.ptr q1.2 0)), (9, Z1 p1), (10, vI (p1.length : Int)), (11, vI y2.2.1), (22, .d (.int .u64 r5))] <| OWk.D <| OTk.M 2 ?_
        obtain ⟨r7, hr, h⟩ := bind_inv h
        refine OWk.C0 (some 23) [(0, .d (.int .u64 r5)), (5, .d (.ptr q1.2 0)), (9, Z1 p1), (10, vI (p1.length : Int)), (11, vI y2.2.1), (23, vS r7)] (j_eight_ok hr) <| OWk.D ?_
        obtain ⟨o, hr, h⟩ := bind_inv h
        rcases o with r8 | ⟨bt, bH⟩
        · replace h := pn_ok h
          refine OTk.M 3 <| OWk.CH (some 24) [(0, .d (.int .u64 r5)), (5, .d (.ptr q1.2 0)), (9, Z1 p1), (10, vI (p1.length : Int)), (11, vI y2.2.1)] (SB.sc (strings_Builder_WriteString_ok hr)) <| OWk.D <| OTk.D <| blockS_n <| thenS_n <| SW.regionK <| OWk.G 2 [(0, .d (.int .u64 r5)), (5, .d (.ptr q1.2 0)), (9, Z1 p1), (10, vI (p1.length : Int)), (11, Z433 y2)] <| OWk.D ?_
          cases h
          exact ⟨(r5, (IntKind.wrap .i64 (y2.2.1 + 1)), r8.2), rfl, by kernel_rfl⟩
        · replace h := pn_boom h
          cases h
      · replace h := pn_boom h
        cases h
    · replace h := bif_f hc h
      refine SW.K [(5, .d (.ptr q1.2 0))] <| SW.exit <| thenS_e ?_
      cases h
      refine thenS_e ?_
      exact ⟨_, rfl, ⟨rfl, rfl⟩⟩
  · rintro _ _ ⟨rfl, rfl⟩
    refine blockS_hit <| thenS_n <| SW.seq <| SW.regionOT <| OTk.M 0 <| OWk.D ?_
    obtain ⟨o, hr, h⟩ := bind_inv h
    rcases o with r11 | ⟨bt, bH⟩
    · replace h := pn_ok h
      refine OTk.M 2 <| OWk.CH (some 26) [(26, vS r11.1)] (SB.sc (strings_Builder_String_ok hr)) <| OWk.G 1 [(4, vS r11.1)] <| OWk.D <| OTk.D <| thenS_n <| SW.ret ?_
      cases h
      exact EndL.ret [] (by kernel_rfl)
    · replace h := pn_boom h
      cases h
def j_Encode (fuel : Nat) (p0 : (List Note)) : Option ((List UInt8) × Int) :=
  (j_valid fuel p0).bind fun r1 =>
  bif (!r1) then
    some ([], 1)
  else
    (j_written fuel 0 p0).bind fun r2 =>
    bif (decide ((r2.length : Int) > 65536)) then
      some ([], 3)
    else
      some (r2, 0)
theorem j_Encode_ok {fuel : Nat} {p0 : (List Note)} {r : (List UInt8) × Int} (h : j_Encode fuel p0 = some r) : PC Try.prog 29 [.d (.list 5 (List.map encNote p0))] (.tup [vS r.1, vI r.2]) := by
  refine PC.of_SW Try.func29 rfl fun H => ?_
  unfold j_Encode at h
  refine SW.kp 14 H [0] [(0, Z1 p0)] (by kernel_rfl) <| SW.R 1 [(0, Z1 p0)] <| SW.seq <| SW.S <| OWk.G 1 [(0, Z1 p0), (5, Z1 p0)] ?_
  obtain ⟨r1, hr, h⟩ := bind_inv h
  refine OWk.C0 (some 6) [(0, Z1 p0), (6, vB r1)] (j_valid_ok hr) <| OWk.G 1 [(0, Z1 p0), (7, vB (!r1))] <| OWk.E ?_
  refine SW.B (!r1) (fun hc => ?_) (fun hc => ?_)
  · replace h := bif_t hc h
    refine SW.R 1 [(2, vS []), (3, vI 1)] <| SW.ret <| thenS_r ?_
    cases h
    exact EndQ.ret [] (by kernel_rfl) rfl
  · replace h := bif_f hc h
    refine SW.skip <| thenS_n <| SW.S <| OWk.G 1 [(8, Z1 p0)] ?_
    obtain ⟨r2, hr, h⟩ := bind_inv h
    refine OWk.C0 (some 9) [(9, vS r2)] (j_written_ok hr) <| OWk.G 1 [(4, vS r2)] <| OWk.E <| SW.seq <| SW.S <| OWk.G 1 [(4, vS r2), (10, vS r2)] <| OWk.G 1 [(4, vS r2), (11, vI (r2.length : Int))] <| OWk.G 1 [(4, vS r2), (12, Z236 r2)] <| OWk.E ?_
    refine SW.B (decide ((r2.length : Int) > 65536)) (fun hc => ?_) (fun hc => ?_)
    · replace h := bif_t hc h
      refine SW.R 1 [(2, vS []), (3, vI 3)] <| SW.ret <| thenS_r ?_
      cases h
      exact EndQ.ret [] (by kernel_rfl) rfl
    · replace h := bif_f hc h
      refine SW.skip <| thenS_n <| SW.R 1 [(2, vS r2), (3, vI 0)] <| SW.ret ?_
      cases h
      exact EndQ.ret [] (by kernel_rfl) rfl
def l_JournalBytes_l1 (fuel : Nat) (p0 : (List Note)) (y3 : Int) : Option ((Int) ⊕ ((Unit) ⊕ ((Bool)))) :=
  bif (decide (y3 < (p0.length : Int))) then
    (idx p0 y3).bind fun x4 =>
    (j_Valid fuel x4).bind fun r5 =>
    (idx p0 y3).bind fun x6 =>
    (r_Valid fuel x6).bind fun r7 =>
    bif (!(r5 == r7)) then
      some (.inr (.inr false))
    else
      some (.inl (IntKind.wrap .i64 (y3 + 1)))
  else
    some (.inr (.inl ()))
noncomputable def l_JournalBytes (fuel : Nat) (p0 : (List Note)) (p1 : Int) (p2 : Int) : Option (Bool) :=
  (l_Notes fuel p0).bind fun r1 =>
  bif (!r1) then
    (l_awake fuel).bind fun r2 =>
    some r2
  else
    (iter (l_JournalBytes_l1 fuel p0) fuel 0).bind (Sum.elim (fun v9 =>
      (j_Encode fuel p0).bind fun r10 =>
      (r_Encode fuel p0).bind fun r11 =>
      letJ (fun (j12 : Bool) =>
        bif j12 then
          some false
        else
          bif (r10.2 != 0) then
            (l_awake fuel).bind fun r16 =>
            some r16
          else
            (j_Decode fuel r10.1).bind fun r17 =>
            letJ (fun (j18 : Bool) =>
              bif j18 then
                some false
              else
                chk (decide ((IntKind.wrap .u64 (IntKind.wrap .i64 ((r10.1.length : Int) + 1))) ≠ 0)) <|
                chk (slOk r10.1 0 (IntKind.wrap .i64 (Int.tmod (IntKind.wrap .u64 p1) (IntKind.wrap .u64 (IntKind.wrap .i64 ((r10.1.length : Int) + 1)))))) <|
                (j_Decode fuel (sl r10.1 0 (IntKind.wrap .i64 (Int.tmod (IntKind.wrap .u64 p1) (IntKind.wrap .u64 (IntKind.wrap .i64 ((r10.1.length : Int) + 1))))))).bind fun r21 =>
                chk (slOk r10.1 0 (IntKind.wrap .i64 (Int.tmod (IntKind.wrap .u64 p1) (IntKind.wrap .u64 (IntKind.wrap .i64 ((r10.1.length : Int) + 1)))))) <|
                (r_Decode fuel (sl r10.1 0 (IntKind.wrap .i64 (Int.tmod (IntKind.wrap .u64 p1) (IntKind.wrap .u64 (IntKind.wrap .i64 ((r10.1.length : Int) + 1))))))).bind fun r22 =>
                bif (r21.2.2.2 == 0) then
                  (r_SameNotes fuel r21.1 r22.1).bind fun r23 =>
                  bif (((r23 && (r21.2.1 == r22.2.1)) && (r21.2.2.1 == r22.2.2.1)) && (r21.2.2.1 == (decide (r21.2.1 < (IntKind.wrap .i64 (Int.tmod (IntKind.wrap .u64 p1) (IntKind.wrap .u64 (IntKind.wrap .i64 ((r10.1.length : Int) + 1))))))))) then
                    (l_awake fuel).bind fun r24 =>
                    some r24
                  else
                    some false
                else
                  some false) fun jp19 =>
            bif (r17.2.2.2 != 0) then
              jp19 true
            else
              bif ((r17.2.1 != (r10.1.length : Int)) || r17.2.2.1) then
                jp19 true
              else
                (r_SameNotes fuel r17.1 p0).bind fun r20 =>
                jp19 (!r20)) fun jp13 =>
      bif ((!(r10.1 == r11.1)) || (r10.2 != r11.2)) then
        jp13 true
      else
        (j_Sum fuel p2 r10.1).bind fun r14 =>
        (r_Sum fuel p2 r10.1).bind fun r15 =>
        jp13 (r14 != r15)) (fun r25 =>
      some r25))
def Z434 (x0 : (List UInt8) × Int) (x1 : (List UInt8) × Int) : SV := vB ((!(x0.1 == x1.1)) || (x0.2 != x1.2))
def Z435 (x0 : (List Note) × Int × Bool × Int) (x1 : (List UInt8) × Int) : SV := vB (x0.2.1 != (x1.1.length : Int))
def Z436 (x0 : (List Note) × Int × Bool × Int) (x1 : (List UInt8) × Int) : SV := vB ((x0.2.1 != (x1.1.length : Int)) || x0.2.2.1)
def Z437 (x0 : (List UInt8) × Int) : SV := .d (.int .u64 (IntKind.wrap .u64 (IntKind.wrap .i64 ((x0.1.length : Int) + 1))))
def Z438 (x0 : Int) (x1 : (List UInt8) × Int) : SV := vI (IntKind.wrap .i64 (Int.tmod (IntKind.wrap .u64 x0) (IntKind.wrap .u64 (IntKind.wrap .i64 ((x1.1.length : Int) + 1)))))
def Z439 (x0 : Int) (x1 : (List UInt8) × Int) : SV := .d (.int .u64 (Int.tmod (IntKind.wrap .u64 x0) (IntKind.wrap .u64 (IntKind.wrap .i64 ((x1.1.length : Int) + 1)))))
def Z440 (x0 : (List UInt8) × Int) (x1 : Int) : SV := vS (sl x0.1 0 (IntKind.wrap .i64 (Int.tmod (IntKind.wrap .u64 x1) (IntKind.wrap .u64 (IntKind.wrap .i64 ((x0.1.length : Int) + 1))))))
def Z441 (x0 : Bool) (x1 : (List Note) × Int × Bool × Int) (x2 : (List Note) × Int × Bool × Int × Int) (x3 : Int) (x4 : (List UInt8) × Int) : SV := vB (((x0 && (x1.2.1 == x2.2.1)) && (x1.2.2.1 == x2.2.2.1)) && (x1.2.2.1 == (decide (x1.2.1 < (IntKind.wrap .i64 (Int.tmod (IntKind.wrap .u64 x3) (IntKind.wrap .u64 (IntKind.wrap .i64 ((x4.1.length : Int) + 1)))))))))
theorem l_JournalBytes_ok {fuel : Nat} {p0 : (List Note)} {p1 : Int} {p2 : Int} {r : Bool} (h : l_JournalBytes fuel p0 p1 p2 = some r) : PC Try.prog 8 [.d (.list 5 (List.map encNote p0)), vI p1, .d (.int .u64 p2)] (vB r) := by
  refine PC.of_SW Try.func8 rfl fun H => ?_
  unfold l_JournalBytes at h
  refine SW.kp 151 H [0, 1, 2] [(0, Z1 p0), (1, vI p1), (2, .d (.int .u64 p2))] (by kernel_rfl) <| SW.R 1 [(0, Z1 p0), (1, vI p1), (2, .d (.int .u64 p2))] <| SW.seq <| SW.S <| OWk.G 1 [(0, Z1 p0), (1, vI p1), (2, .d (.int .u64 p2)), (22, Z1 p0)] ?_
  obtain ⟨r1, hr, h⟩ := bind_inv h
  refine OWk.C0 (some 23) [(0, Z1 p0), (1, vI p1), (2, .d (.int .u64 p2)), (23, vB r1)] (l_Notes_ok hr) <| OWk.G 1 [(0, Z1 p0), (1, vI p1), (2, .d (.int .u64 p2)), (24, vB (!r1))] <| OWk.E ?_
  refine SW.B (!r1) (fun hc => ?_) (fun hc => ?_)
  · replace h := bif_t hc h
    refine SW.S ?_
    obtain ⟨r2, hr, h⟩ := bind_inv h
    refine OWk.C0 (some 25) [(25, vB r2)] (l_awake_ok hr) <| OWk.G 1 [(6, vB r2)] <| OWk.E <| SW.ret <| thenS_r ?_
    cases h
    exact EndQ.ret [] (by kernel_rfl) rfl
  · replace h := bif_f hc h
    refine SW.skip <| thenS_n <| SW.seq <| SW.R 1 [(0, Z1 p0), (1, vI p1), (2, .d (.int .u64 p2)), (7, vI 0)] <| SW.block ?_
    obtain ⟨z8, hit, h⟩ := bind_inv h
    refine SW.it 151 H [0, 1, 2, 7] (fun y3 => [(0, Z1 p0), (1, vI p1), (2, .d (.int .u64 p2)), (7, vI y3)]) (fun b e s => ((∃ v9, b = (.inl v9) ∧ (e = .exit 0 ∧ s = (sp 151 [(0, Z1 p0), (1, vI p1), (2, .d (.int .u64 p2))] H))) ∨ (∃ r25, b = (.inr r25) ∧ (e = .ret ∧ EndQ Try.prog Try.f8.results.toList H (vB r25) .ret s)))) hit (by kernel_rfl) (fun y3 o h => ?_) ?_
    · unfold l_JournalBytes_l1 at h
      refine SW.seq <| SW.S <| OWk.G 2 [(0, Z1 p0), (1, vI p1), (2, .d (.int .u64 p2)), (7, vI y3), (26, vI y3), (27, Z1 p0)] <| OWk.O (d := some 28) [(0, Z1 p0), (1, vI p1), (2, .d (.int .u64 p2)), (7, vI y3), (26, vI y3), (28, vI (p0.length : Int))] (BAt.len (enc := encNote) (xs := p0) (by kernel_rfl)) <| OWk.G 1 [(0, Z1 p0), (1, vI p1), (2, .d (.int .u64 p2)), (7, vI y3), (29, Z50 y3 p0)] <| OWk.E ?_
      refine SW.B (decide (y3 < (p0.length : Int))) (fun hc => ?_) (fun hc => ?_)
      · replace h := bif_t hc h
        refine SW.skip <| thenS_n <| SW.seq <| SW.block <| SW.seq <| SW.regionQ (by kernel_rfl) (by kernel_rfl) <| OQk.G 2 [(0, Z1 p0), (1, vI p1), (2, .d (.int .u64 p2)), (7, vI y3), (32, Z1 p0), (33, vI y3)] ?_
        obtain ⟨x4, hx, h⟩ := bind_inv h
        refine OQk.on 151 H (d := some 34) (s := lendP none (Go.Sh.D.cells (encNote x4))) [0, 1, 2, 7, 34] [(0, Z1 p0), (1, vI p1), (2, .d (.int .u64 p2)), (7, vI y3), (34, .d (.dptr [.int .i64 x4.Kind, .int .i64 x4.Unit, .str x4.Key, .bool x4.Has, .str x4.Text]))] (BAt.index (n := 5) hx (by kernel_rfl)) (by kernel_rfl) <| OQk.G 1 [(0, Z1 p0), (1, vI p1), (2, .d (.int .u64 p2)), (7, vI y3), (35, Z29 x4)] ?_
        obtain ⟨r5, hr, h⟩ := bind_inv h
        refine OQk.cl 151 H (d := some 36) (ls := []) [0, 1, 2, 7, 36] [(0, Z1 p0), (1, vI p1), (2, .d (.int .u64 p2)), (7, vI y3), (36, vB r5)] (j_Valid_ok hr) (by kernel_rfl) (by kernel_rfl) (by kernel_rfl) <| OQk.G 2 [(0, Z1 p0), (1, vI p1), (2, .d (.int .u64 p2)), (7, vI y3), (36, vB r5), (37, Z1 p0), (38, vI y3)] ?_
        obtain ⟨x6, hx, h⟩ := bind_inv h
        refine OQk.on 151 H (d := some 39) (s := lendP none (Go.Sh.D.cells (encNote x6))) [0, 1, 2, 7, 36, 39] [(0, Z1 p0), (1, vI p1), (2, .d (.int .u64 p2)), (7, vI y3), (36, vB r5), (39, .d (.dptr [.int .i64 x6.Kind, .int .i64 x6.Unit, .str x6.Key, .bool x6.Has, .str x6.Text]))] (BAt.index (n := 5) hx (by kernel_rfl)) (by kernel_rfl) <| OQk.G 1 [(0, Z1 p0), (1, vI p1), (2, .d (.int .u64 p2)), (7, vI y3), (36, vB r5), (40, Z29 x6)] ?_
        obtain ⟨r7, hr, h⟩ := bind_inv h
        refine OQk.cl 151 H (d := some 41) (ls := []) [0, 1, 2, 7, 36, 41] [(0, Z1 p0), (1, vI p1), (2, .d (.int .u64 p2)), (7, vI y3), (36, vB r5), (41, vB r7)] (r_Valid_ok hr) (by kernel_rfl) (by kernel_rfl) (by kernel_rfl) <| OQk.G 1 [(0, Z1 p0), (1, vI p1), (2, .d (.int .u64 p2)), (7, vI y3), (42, vB (!(r5 == r7)))] <| OQk.done (by kernel_rfl) <| thenS_n ?_
        refine SW.B (!(r5 == r7)) (fun hc => ?_) (fun hc => ?_)
        · replace h := bif_t hc h
          refine SW.R 1 [(6, vB false)] <| SW.ret <| blockS_r <| thenS_r ?_
          cases h
          refine thenS_r ?_
          exact ⟨_, rfl, .inr (⟨false, rfl, rfl, EndQ.ret [] (by kernel_rfl) rfl⟩)⟩
        · replace h := bif_f hc h
          refine SW.skip <| blockS_n <| thenS_n <| SW.regionK <| OWk.G 3 [(0, Z1 p0), (1, vI p1), (2, .d (.int .u64 p2)), (7, Z24 y3)] <| OWk.D ?_
          cases h
          exact ⟨(IntKind.wrap .i64 (y3 + 1)), rfl, by kernel_rfl⟩
      · replace h := bif_f hc h
        refine SW.K [(0, Z1 p0), (1, vI p1), (2, .d (.int .u64 p2))] <| SW.exit <| thenS_e ?_
        cases h
        refine thenS_e ?_
        exact ⟨_, rfl, .inl ⟨(), rfl, rfl, rfl⟩⟩
    · rintro _ _ (⟨v9, rfl, rfl, rfl⟩ | ⟨r25, rfl, rfl, hE⟩)
      · replace h := sum_l h
        refine blockS_hit <| thenS_n <| SW.S <| OWk.G 1 [(0, Z1 p0), (1, vI p1), (2, .d (.int .u64 p2)), (44, Z1 p0)] ?_
        obtain ⟨r10, hr, h⟩ := bind_inv h
        refine OWk.C0 (some 45) [(0, Z1 p0), (1, vI p1), (2, .d (.int .u64 p2)), (45, .tup [vS r10.1, vI r10.2])] (j_Encode_ok hr) <| OWk.G 5 [(0, Z1 p0), (1, vI p1), (2, .d (.int .u64 p2)), (8, vS r10.1), (9, vI r10.2)] <| OWk.E <| SW.S <| OWk.G 1 [(0, Z1 p0), (1, vI p1), (2, .d (.int .u64 p2)), (8, vS r10.1), (9, vI r10.2), (49, Z1 p0)] ?_
        obtain ⟨r11, hr, h⟩ := bind_inv h
        refine OWk.C0 (some 50) [(0, Z1 p0), (1, vI p1), (2, .d (.int .u64 p2)), (8, vS r10.1), (9, vI r10.2), (50, .tup [vS r11.1, vI r11.2])] (r_Encode_ok hr) <| OWk.G 5 [(0, Z1 p0), (1, vI p1), (2, .d (.int .u64 p2)), (8, vS r10.1), (9, vI r10.2), (10, vS r11.1), (11, vI r11.2)] <| OWk.E <| SW.seq ?_
        obtain ⟨jp13, hjjp13, h⟩ := letJ_inv h
        refine SW.jn 151 H [0, 1, 8, 9, 69] (fun (j12 : Bool) => [(0, Z1 p0), (1, vI p1), (8, vS r10.1), (9, vI r10.2), (69, vB j12)]) (fun v => jp13 v = some r) (fun j12 h => ?_) ?_
        · rw [hjjp13] at h
          refine SW.B j12 (fun hc => ?_) (fun hc => ?_)
          · replace h := bif_t hc h
            refine SW.R 1 [(6, vB false)] <| SW.ret <| thenS_r ?_
            cases h
            exact EndQ.ret [] (by kernel_rfl) rfl
          · replace h := bif_f hc h
            refine SW.skip <| thenS_n <| SW.seq <| SW.R 1 [(0, Z1 p0), (1, vI p1), (8, vS r10.1), (71, vB (r10.2 != 0))] ?_
            refine SW.B (r10.2 != 0) (fun hc => ?_) (fun hc => ?_)
            · replace h := bif_t hc h
              refine SW.S ?_
              obtain ⟨r16, hr, h⟩ := bind_inv h
              refine OWk.C0 (some 72) [(72, vB r16)] (l_awake_ok hr) <| OWk.G 1 [(6, vB r16)] <| OWk.E <| SW.ret <| thenS_r ?_
              cases h
              exact EndQ.ret [] (by kernel_rfl) rfl
            · replace h := bif_f hc h
              refine SW.skip <| thenS_n <| SW.S <| OWk.G 1 [(0, Z1 p0), (1, vI p1), (8, vS r10.1), (74, vS r10.1)] ?_
              obtain ⟨r17, hr, h⟩ := bind_inv h
              refine OWk.C0 (some 75) [(0, Z1 p0), (1, vI p1), (8, vS r10.1), (75, .tup [.d (.list 5 (List.map encNote r17.1)), vI r17.2.1, vB r17.2.2.1, vI r17.2.2.2])] (j_Decode_ok hr) <| OWk.G 9 [(0, Z1 p0), (1, vI p1), (8, vS r10.1), (9, vI r17.2.2.2), (12, Z304 r17), (13, vI r17.2.1), (14, vB r17.2.2.1)] <| OWk.E <| SW.seq ?_
              obtain ⟨jp19, hjjp19, h⟩ := letJ_inv h
              refine SW.jn 151 H [1, 8, 96] (fun (j18 : Bool) => [(1, vI p1), (8, vS r10.1), (96, vB j18)]) (fun v => jp19 v = some r) (fun j18 h => ?_) ?_
              · rw [hjjp19] at h
                refine SW.B j18 (fun hc => ?_) (fun hc => ?_)
                · replace h := bif_t hc h
                  refine SW.R 1 [(6, vB false)] <| SW.ret <| thenS_r ?_
                  cases h
                  exact EndQ.ret [] (by kernel_rfl) rfl
                · replace h := bif_f hc h
                  refine SW.skip <| thenS_n <| SW.S <| OWk.G 3 [(8, vS r10.1), (98, Z403 p1), (99, vS r10.1)] <| OWk.G 1 [(8, vS r10.1), (98, Z403 p1), (100, vI (r10.1.length : Int))] <| OWk.G 2 [(8, vS r10.1), (98, Z403 p1), (102, Z437 r10)] ?_
                  obtain ⟨hk, h⟩ := chk_inv h
                  refine OWk.O (d := some 103) (s := .d (.int .u64 (Int.tmod (IntKind.wrap .u64 p1) (IntKind.wrap .u64 (IntKind.wrap .i64 ((r10.1.length : Int) + 1)))))) [(8, vS r10.1), (103, Z439 p1 r10)] (BAt.divi (l := false) (kk := .u64) (a := (IntKind.wrap .u64 p1)) (b := (IntKind.wrap .u64 (IntKind.wrap .i64 ((r10.1.length : Int) + 1)))) hk (by kernel_rfl)) <| OWk.G 2 [(8, vS r10.1), (15, Z438 p1 r10)] <| OWk.E <| SW.S <| OWk.G 2 [(8, vS r10.1), (15, Z438 p1 r10), (106, vS r10.1), (107, Z438 p1 r10)] ?_
                  obtain ⟨hk, h⟩ := chk_inv h
                  refine OWk.O (d := some 108) [(8, vS r10.1), (15, Z438 p1 r10), (108, Z440 r10 p1)] (BAt.sliceS hk (by kernel_rfl)) ?_
                  obtain ⟨r21, hr, h⟩ := bind_inv h
                  refine OWk.C0 (some 109) [(8, vS r10.1), (15, Z438 p1 r10), (109, .tup [.d (.list 5 (List.map encNote r21.1)), vI r21.2.1, vB r21.2.2.1, vI r21.2.2.2])] (j_Decode_ok hr) <| OWk.G 9 [(8, vS r10.1), (9, vI r21.2.2.2), (13, vI r21.2.1), (14, vB r21.2.2.1), (15, Z438 p1 r10), (16, Z304 r21)] <| OWk.E <| SW.S <| OWk.G 2 [(9, vI r21.2.2.2), (13, vI r21.2.1), (14, vB r21.2.2.1), (15, Z438 p1 r10), (16, Z304 r21), (115, vS r10.1), (116, Z438 p1 r10)] ?_
                  obtain ⟨hk, h⟩ := chk_inv h
                  refine OWk.O (d := some 117) [(9, vI r21.2.2.2), (13, vI r21.2.1), (14, vB r21.2.2.1), (15, Z438 p1 r10), (16, Z304 r21), (117, Z440 r10 p1)] (BAt.sliceS hk (by kernel_rfl)) ?_
                  obtain ⟨r22, hr, h⟩ := bind_inv h
                  refine OWk.C0 (some 118) [(9, vI r21.2.2.2), (13, vI r21.2.1), (14, vB r21.2.2.1), (15, Z438 p1 r10), (16, Z304 r21), (118, .tup [.own 5 (List.map encNote r22.1), vI r22.2.1, vB r22.2.2.1, .d (.int .u64 r22.2.2.2.1), vI r22.2.2.2.2])] (r_Decode_ok hr) <| OWk.G 11 [(9, vI r21.2.2.2), (13, vI r21.2.1), (14, vB r21.2.2.1), (15, Z438 p1 r10), (16, Z304 r21), (17, Z384 r22), (18, vI r22.2.1), (19, vB r22.2.2.1)] <| OWk.E <| SW.S <| OWk.G 3 [(13, vI r21.2.1), (14, vB r21.2.2.1), (15, Z438 p1 r10), (16, Z304 r21), (17, Z384 r22), (18, vI r22.2.1), (19, vB r22.2.2.1), (126, vB (r21.2.2.2 == 0))] ?_
                  refine OWk.case (r21.2.2.2 == 0) (fun b => (sp 151 [(13, vI r21.2.1), (14, vB r21.2.2.1), (15, Z438 p1 r10), (16, Z304 r21), (17, Z384 r22), (18, vI r22.2.1), (19, vB r22.2.2.1), (126, vB b)] H)) (by kernel_rfl) (fun hc => ?_) (fun hc => ?_)
                  · replace h := bif_t hc h
                    refine OWk.sg 151 H [128] [13, 14, 15, 18, 19, 126, 127, 128] 2 [(13, vI r21.2.1), (14, vB r21.2.2.1), (15, Z438 p1 r10), (18, vI r22.2.1), (19, vB r22.2.2.1), (126, vB true), (127, Z304 r21), (128, Z384 r22)] (by kernel_rfl) ?_
                    obtain ⟨r23, hr, h⟩ := bind_inv h
                    refine OWk.C (d := some 129) (ls := [(.slot 128)]) (gs := []) [] [(13, vI r21.2.1), (14, vB r21.2.2.1), (15, Z438 p1 r10), (18, vI r22.2.1), (19, vB r22.2.2.1), (126, vB true), (129, vB r23)] (r_SameNotes_ok hr) <| OWk.sg 151 H [128] [13, 14, 15, 18, 19, 131] 2 [(13, vI r21.2.1), (14, vB r21.2.2.1), (15, Z438 p1 r10), (18, vI r22.2.1), (19, vB r22.2.2.1), (131, vB r23)] (by kernel_rfl) <| OWk.M 4 r23 (fun b => [(13, vI r21.2.1), (14, vB r21.2.2.1), (15, Z438 p1 r10), (18, vI r22.2.1), (19, vB r22.2.2.1), (131, vB b)]) (fun b => [(13, vI r21.2.1), (14, vB r21.2.2.1), (15, Z438 p1 r10), (19, vB r22.2.2.1), (135, vB (b && (r21.2.1 == r22.2.1)))]) <| OWk.sg 151 H [128] [13, 14, 15, 19, 136] 1 [(13, vI r21.2.1), (14, vB r21.2.2.1), (15, Z438 p1 r10), (19, vB r22.2.2.1), (136, Z387 r23 r21 r22)] (by kernel_rfl) <| OWk.M 4 (r23 && (r21.2.1 == r22.2.1)) (fun b => [(13, vI r21.2.1), (14, vB r21.2.2.1), (15, Z438 p1 r10), (19, vB r22.2.2.1), (136, vB b)]) (fun b => [(13, vI r21.2.1), (14, vB r21.2.2.1), (15, Z438 p1 r10), (140, vB (b && (r21.2.2.1 == r22.2.2.1)))]) <| OWk.sg 151 H [128] [13, 14, 15, 141] 1 [(13, vI r21.2.1), (14, vB r21.2.2.1), (15, Z438 p1 r10), (141, Z388 r23 r21 r22)] (by kernel_rfl) <| OWk.M 6 ((r23 && (r21.2.1 == r22.2.1)) && (r21.2.2.1 == r22.2.2.1)) (fun b => [(13, vI r21.2.1), (14, vB r21.2.2.1), (15, Z438 p1 r10), (141, vB b)]) (fun b => [(147, vB (b && (r21.2.2.1 == (decide (r21.2.1 < (IntKind.wrap .i64 (Int.tmod (IntKind.wrap .u64 p1) (IntKind.wrap .u64 (IntKind.wrap .i64 ((r10.1.length : Int) + 1))))))))))]) <| OWk.sg 151 H [128] [148] 1 [(148, Z441 r23 r21 r22 p1 r10)] (by kernel_rfl) ?_
                    refine OWk.case (((r23 && (r21.2.1 == r22.2.1)) && (r21.2.2.1 == r22.2.2.1)) && (r21.2.2.1 == (decide (r21.2.1 < (IntKind.wrap .i64 (Int.tmod (IntKind.wrap .u64 p1) (IntKind.wrap .u64 (IntKind.wrap .i64 ((r10.1.length : Int) + 1))))))))) (fun b => (sp 151 [(148, vB b)] H)) (by kernel_rfl) (fun hc => ?_) (fun hc => ?_)
                    · replace h := bif_t hc h
                      obtain ⟨r24, hr, h⟩ := bind_inv h
                      refine OWk.C0 (some 149) [(148, vB true), (149, vB r24)] (l_awake_ok hr) <| OWk.sg 151 H [128] [6] 2 [(6, vB r24)] (by kernel_rfl) <| OWk.E <| SW.ret ?_
                      cases h
                      exact EndQ.ret [] (by kernel_rfl) rfl
                    · replace h := bif_f hc h
                      refine OWk.sg 151 H [128] [6] 3 [(6, vB false)] (by kernel_rfl) <| OWk.E <| SW.ret ?_
                      cases h
                      exact EndQ.ret [] (by kernel_rfl) rfl
                  · replace h := bif_f hc h
                    refine OWk.sg 151 H [128] [6] 25 [(6, vB false)] (by kernel_rfl) <| OWk.E <| SW.ret ?_
                    cases h
                    exact EndQ.ret [] (by kernel_rfl) rfl
              · refine SW.regionK <| OWk.G 3 [(0, Z1 p0), (1, vI p1), (8, vS r10.1), (12, Z304 r17), (13, vI r17.2.1), (14, vB r17.2.2.1), (82, vB (r17.2.2.2 != 0))] ?_
                refine OWk.case (r17.2.2.2 != 0) (fun b => (sp 151 [(0, Z1 p0), (1, vI p1), (8, vS r10.1), (12, Z304 r17), (13, vI r17.2.1), (14, vB r17.2.2.1), (82, vB b)] H)) (by kernel_rfl) (fun hc => ?_) (fun hc => ?_)
                · replace h := bif_t hc h
                  refine OWk.G 14 [(1, vI p1), (8, vS r10.1), (96, vB true)] <| OWk.D ?_
                  exact ⟨true, [], by kernel_rfl, h⟩
                · replace h := bif_f hc h
                  refine OWk.G 2 [(0, Z1 p0), (1, vI p1), (8, vS r10.1), (12, Z304 r17), (14, vB r17.2.2.1), (82, vB false), (83, vI r17.2.1), (84, vS r10.1)] <| OWk.G 1 [(0, Z1 p0), (1, vI p1), (8, vS r10.1), (12, Z304 r17), (14, vB r17.2.2.1), (82, vB false), (83, vI r17.2.1), (85, vI (r10.1.length : Int))] <| OWk.G 3 [(0, Z1 p0), (1, vI p1), (8, vS r10.1), (12, Z304 r17), (14, vB r17.2.2.1), (88, Z435 r17 r10)] <| OWk.M 2 (r17.2.1 != (r10.1.length : Int)) (fun b => [(0, Z1 p0), (1, vI p1), (8, vS r10.1), (12, Z304 r17), (14, vB r17.2.2.1), (88, vB b)]) (fun b => [(0, Z1 p0), (1, vI p1), (8, vS r10.1), (12, Z304 r17), (90, vB (b || r17.2.2.1))]) <| OWk.G 1 [(0, Z1 p0), (1, vI p1), (8, vS r10.1), (12, Z304 r17), (91, Z436 r17 r10)] ?_
                  refine OWk.case ((r17.2.1 != (r10.1.length : Int)) || r17.2.2.1) (fun b => (sp 151 [(0, Z1 p0), (1, vI p1), (8, vS r10.1), (12, Z304 r17), (91, vB b)] H)) (by kernel_rfl) (fun hc => ?_) (fun hc => ?_)
                  · replace h := bif_t hc h
                    refine OWk.G 5 [(1, vI p1), (8, vS r10.1), (96, vB true)] <| OWk.D ?_
                    exact ⟨true, [], by kernel_rfl, h⟩
                  · replace h := bif_f hc h
                    refine OWk.G 2 [(1, vI p1), (8, vS r10.1), (91, vB false), (92, Z304 r17), (93, Z1 p0)] ?_
                    obtain ⟨r20, hr, h⟩ := bind_inv h
                    refine OWk.C0 (some 94) [(1, vI p1), (8, vS r10.1), (91, vB false), (94, vB r20)] (r_SameNotes_ok hr) <| OWk.G 2 [(1, vI p1), (8, vS r10.1), (96, vB (!r20))] <| OWk.D ?_
                    exact ⟨(!r20), [], by kernel_rfl, h⟩
        · refine SW.regionK <| OWk.G 4 [(0, Z1 p0), (1, vI p1), (2, .d (.int .u64 p2)), (8, vS r10.1), (9, vI r10.2), (11, vI r11.2), (56, vB (!(r10.1 == r11.1)))] <| OWk.M 4 (!(r10.1 == r11.1)) (fun b => [(0, Z1 p0), (1, vI p1), (2, .d (.int .u64 p2)), (8, vS r10.1), (9, vI r10.2), (11, vI r11.2), (56, vB b)]) (fun b => [(0, Z1 p0), (1, vI p1), (2, .d (.int .u64 p2)), (8, vS r10.1), (9, vI r10.2), (60, vB (b || (r10.2 != r11.2)))]) <| OWk.G 1 [(0, Z1 p0), (1, vI p1), (2, .d (.int .u64 p2)), (8, vS r10.1), (9, vI r10.2), (61, Z434 r10 r11)] ?_
          refine OWk.case ((!(r10.1 == r11.1)) || (r10.2 != r11.2)) (fun b => (sp 151 [(0, Z1 p0), (1, vI p1), (2, .d (.int .u64 p2)), (8, vS r10.1), (9, vI r10.2), (61, vB b)] H)) (by kernel_rfl) (fun hc => ?_) (fun hc => ?_)
          · replace h := bif_t hc h
            refine OWk.G 8 [(0, Z1 p0), (1, vI p1), (8, vS r10.1), (9, vI r10.2), (69, vB true)] <| OWk.D ?_
            exact ⟨true, [], by kernel_rfl, h⟩
          · replace h := bif_f hc h
            refine OWk.G 2 [(0, Z1 p0), (1, vI p1), (2, .d (.int .u64 p2)), (8, vS r10.1), (9, vI r10.2), (61, vB false), (62, .d (.int .u64 p2)), (63, vS r10.1)] ?_
            obtain ⟨r14, hr, h⟩ := bind_inv h
            refine OWk.C0 (some 64) [(0, Z1 p0), (1, vI p1), (2, .d (.int .u64 p2)), (8, vS r10.1), (9, vI r10.2), (61, vB false), (64, .d (.int .u64 r14))] (j_Sum_ok hr) <| OWk.G 2 [(0, Z1 p0), (1, vI p1), (8, vS r10.1), (9, vI r10.2), (61, vB false), (64, .d (.int .u64 r14)), (65, .d (.int .u64 p2)), (66, vS r10.1)] ?_
            obtain ⟨r15, hr, h⟩ := bind_inv h
            refine OWk.C0 (some 67) [(0, Z1 p0), (1, vI p1), (8, vS r10.1), (9, vI r10.2), (61, vB false), (64, .d (.int .u64 r14)), (67, .d (.int .u64 r15))] (r_Sum_ok hr) <| OWk.G 2 [(0, Z1 p0), (1, vI p1), (8, vS r10.1), (9, vI r10.2), (69, vB (r14 != r15))] <| OWk.D ?_
            exact ⟨(r14 != r15), [], by kernel_rfl, h⟩
      · replace h := sum_r h
        refine blockS_r <| thenS_r ?_
        cases h
        exact hE
end Go.Sh
