/- Printed by a program: functions of the program as plain functions, and that the code computes them. -/
import Derived.Test.YtmhiemakdfkmeaaF1
set_option linter.all false
set_option autoImplicit true
set_option relaxedAutoImplicit true
open Go Go.Proofs
namespace Go.Sh
set_option maxRecDepth 100000
def bl (fuel : Nat) (p0 : Nat) (p1 : Entry) (p2 : Entry) (H : Hp) : Option (Bool) :=
 (bg cP.cell H p0 0).bind fun x1 =>
 x1.bind fun i2 =>
 (bg bu.cells H i2 0).bind fun x3 =>
 (fT fuel x3 p1 p2).bind fun r4 =>
 bif (decide (r4 < 0)) then
  (bg cP.cell H p0 0).bind fun x5 =>
  x5.bind fun i6 =>
  (bg (cI .i64).cell H i6 2).bind fun x7 =>
  bif (x7 != 1) then
   some true
  else
   (bg cP.cell H p0 0).bind fun x8 =>
   x8.bind fun i9 =>
   (bg bu.cells H i9 0).bind fun x10 =>
   (lr fuel x10 p1.Row p2.Row).bind fun r11 =>
   some (r11 != 0)
 else
  some false
def DQ (x0 : ((Bool) × Hp)) (x1 : Node) : SV := vB ((!x0.1) || (decide (x1.Level < 0)))
def DP (x0 : ((Bool) × Hp)) (x1 : Node) (x2 : Int × Bool) : SV := vB (((!x0.1) || (decide (x1.Level < 0))) || (x1.Level != x2.1))
def DO (x0 : Node) (x1 : Int) : SV := vB ((x0.Kids.length : Int) != x1)
def DN (x0 : Node) : SV := vB (decide ((x0.Entries.length : Int) > 0))
def DM (x0 : T82) : SV := .d (aP ab x0.low)
def DL (x0 : T82) : SV := .box [.d (.aL), .d (aP ab x0.high)]
def Ca (x0 : T82) : SV := .d (aP ab x0.high)
def DK : SV := .box [.d (.aL), .d (.aL)]
def B9 (x0 : Entry) : SV := .box [.d (.aL), .d (.aR [.list 3 (List.map ag x0.Row), .int .i64 x0.Key, .int .i64 x0.Number])]
def B8 (x0 : Node) : SV := vI (IntKind.wrap .i64 ((x0.Entries.length : Int) - 1))
def K18 := fun a0 a1 a2 (t : SL) => ((0, .d (.ptr a0 0)) :: (4, Z76 a1) :: (5, Z76 a2) :: t : SL)
def K83 := fun a0 a1 (t : SL) => ((4, Z76 a0) :: (5, Z76 a1) :: (18, vB true) :: (28, vB false) :: t : SL)
theorem fu {fuel : Nat} {p0 : Nat} {p1 : Entry} {p2 : Entry} {H : Hp} {r : Bool} (h : bl fuel p0 p1 p2 H = some r) : SC Try.prog true 54 [.d (.ptr p0 0), .d (ab p1), .d (ab p2)] H (vB r) H := by
 refine SC.gL Try.func54 rfl ?_
 unfold bl at h
 refine SW.kp 44 H [0, 1, 2] [(0, .d (.ptr p0 0)), (1, Z77 p1), (2, Z77 p2)] (by kernel_rfl) <| SW.R 1 (K18 p0 p1 p2 []) <| SW.seq <| SW.cw (by kernel_rfl) (by kernel_rfl) <| OQk.G 3 (K18 p0 p1 p2 [(9, .d (.ptr p0 0))]) ?_
 obtain ⟨x1, hx, h⟩ := aa h
 refine OQk.on 44 H (d := some 10) (s := .d (cP.enc x1)) [0, 4, 5, 10] (K18 p0 p1 p2 [(10, .d (cP.enc x1))]) (BAt.ldH (c := cP.cell) hx (by kernel_rfl)) (by kernel_rfl) ?_
 obtain ⟨i2, hp_i2, h⟩ := aa h
 refine OQk.on 44 H (d := some 11) (s := .d (.ptr i2 0)) [0, 4, 5, 11] (K18 p0 p1 p2 [(11, .d (.ptr i2 0))]) (BAt.oe (p := x1) hp_i2 (by kernel_rfl)) (by kernel_rfl) <| OQk.G 1 (K18 p0 p1 p2 [(12, .d (.ptr i2 0))]) ?_
 obtain ⟨x3, hx, h⟩ := aa h
 refine OQk.on 44 H (d := some 13) (s := .d (.agg [.list 1 (List.map (D.int .i64) x3.aq), .list 1 (List.map D.bool x3.Down), .int .i64 x3.Dup])) [0, 4, 5, 13] (K18 p0 p1 p2 [(13, Z23 x3)]) (BAt.ldH (c := bu.cells) hx (by kernel_rfl)) (by kernel_rfl) <| OQk.G 2 (K18 p0 p1 p2 [(13, Z23 x3), (14, Z77 p1), (15, Z77 p2)]) ?_
 obtain ⟨r4, hr, h⟩ := aa h
 refine OQk.cl 44 H (d := some 16) (ls := []) [0, 4, 5, 16] (K18 p0 p1 p2 [(16, vI r4)]) (jj hr) (by kernel_rfl) (by kernel_rfl) (by kernel_rfl) <| OQk.G 2 (K18 p0 p1 p2 [(18, vB (decide (r4 < 0)))]) ?_
 refine OQk.case (decide (r4 < 0)) (fun b => (sp 44 (K18 p0 p1 p2 [(18, vB b)]) H)) (by kernel_rfl) (fun hc => ?_) (fun hc => ?_)
 ·replace h := an hc h
  refine OQk.G 3 (K18 p0 p1 p2 [(18, vB true), (21, .d (.ptr p0 0))]) ?_
  obtain ⟨x5, hx, h⟩ := aa h
  refine OQk.on 44 H (d := some 22) (s := .d (cP.enc x5)) [0, 4, 5, 18, 22] (K18 p0 p1 p2 [(18, vB true), (22, .d (cP.enc x5))]) (BAt.ldH (c := cP.cell) hx (by kernel_rfl)) (by kernel_rfl) ?_
  obtain ⟨i6, hp_i6, h⟩ := aa h
  refine OQk.on 44 H (d := some 23) (s := .d (.ptr i6 0)) [0, 4, 5, 18, 23] (K18 p0 p1 p2 [(18, vB true), (23, .d (.ptr i6 0))]) (BAt.oe (p := x5) hp_i6 (by kernel_rfl)) (by kernel_rfl) <| OQk.G 2 (K18 p0 p1 p2 [(18, vB true), (25, .d (.ptr i6 2))]) ?_
  obtain ⟨x7, hx, h⟩ := aa h
  refine OQk.on 44 H (d := some 26) (s := vI x7) [0, 4, 5, 18, 26] (K18 p0 p1 p2 [(18, vB true), (26, vI x7)]) (BAt.ldH (c := (cI .i64).cell) hx (by kernel_rfl)) (by kernel_rfl) <| OQk.G 2 (K18 p0 p1 p2 [(18, vB true), (28, vB (x7 != 1))]) ?_
  refine OQk.case (x7 != 1) (fun b => (sp 44 (K18 p0 p1 p2 [(18, vB true), (28, vB b)]) H)) (by kernel_rfl) (fun hc => ?_) (fun hc => ?_)
  ·replace h := an hc h
   refine OQk.G 16 [(6, vB true)] <| OQk.done (by kernel_rfl) <| ad <| SW.ret ?_
   cases h
   exact aA.ret [] (by kernel_rfl) rfl
  ·replace h := ao hc h
   refine OQk.G 3 (K83 p1 p2 [(31, .d (.ptr p0 0))]) ?_
   obtain ⟨x8, hx, h⟩ := aa h
   refine OQk.on 44 H (d := some 32) (s := .d (cP.enc x8)) [4, 5, 18, 28, 32] (K83 p1 p2 [(32, .d (cP.enc x8))]) (BAt.ldH (c := cP.cell) hx (by kernel_rfl)) (by kernel_rfl) ?_
   obtain ⟨i9, hp_i9, h⟩ := aa h
   refine OQk.on 44 H (d := some 33) (s := .d (.ptr i9 0)) [4, 5, 18, 28, 33] (K83 p1 p2 [(33, .d (.ptr i9 0))]) (BAt.oe (p := x8) hp_i9 (by kernel_rfl)) (by kernel_rfl) <| OQk.G 1 (K83 p1 p2 [(34, .d (.ptr i9 0))]) ?_
   obtain ⟨x10, hx, h⟩ := aa h
   refine OQk.on 44 H (d := some 35) (s := .d (.agg [.list 1 (List.map (D.int .i64) x10.aq), .list 1 (List.map D.bool x10.Down), .int .i64 x10.Dup])) [4, 5, 18, 28, 35] (K83 p1 p2 [(35, Z23 x10)]) (BAt.ldH (c := bu.cells) hx (by kernel_rfl)) (by kernel_rfl) <| OQk.G 4 [(18, vB true), (28, vB false), (35, Z23 x10), (37, Z84 p1), (39, Z84 p2)] ?_
   obtain ⟨r11, hr, h⟩ := aa h
   refine OQk.cl 44 H (d := some 40) (ls := []) [18, 28, 40] [(18, vB true), (28, vB false), (40, vI r11)] (mP hr) (by kernel_rfl) (by kernel_rfl) (by kernel_rfl) <| OQk.G 4 [(6, vB (r11 != 0))] <| OQk.done (by kernel_rfl) <| ad <| SW.ret ?_
   cases h
   exact aA.ret [] (by kernel_rfl) rfl
 ·replace h := ao hc h
  refine OQk.G 26 [(6, vB false)] <| OQk.done (by kernel_rfl) <| ad <| SW.ret ?_
  cases h
  exact aA.ret [] (by kernel_rfl) rfl
def bX (fuel : Nat) (x7 : Node) (q30 : (Hp × Nat)) (y31 : (Option Entry) × (Option Entry) × Int × (List Entry) × (List Int) × Int × Hp) : Option (((Option Entry) × (Option Entry) × Int × (List Entry) × (List Int) × Int × Hp) ⊕ ((Option Entry) × (Option Entry) × Int × (List Entry) × (List Int) × Hp)) :=
 bif (decide (y31.2.2.2.2.2.1 < (x7.Entries.length : Int))) then
  (idx x7.Entries y31.2.2.2.2.2.1).bind fun x32 =>
  (eF 3 aK y31.2.2.2.2.2.2 q30.2 0).bind fun q33 =>
  (oX fuel x32).bind fun r34 =>
  chk (decide ((q33.1 ++ [r34]).length ≤ room)) <|
  (dB 3 aK q33.2 q30.2 0 (q33.1 ++ [r34])).bind fun H36 =>
  some (.inl (y31.1, y31.2.1, y31.2.2.1, y31.2.2.2.1, y31.2.2.2.2.1, (IntKind.wrap .i64 (y31.2.2.2.2.2.1 + 1)), H36))
 else
  some (.inr (y31.1, y31.2.1, y31.2.2.1, y31.2.2.2.1, y31.2.2.2.2.1, y31.2.2.2.2.2.2))
def ba (fuel : Nat) (rc : (Nat → Int → T82 → Hp → Option (((Option Nat)) × Hp))) (p0 : Nat) (x1 : Int) (x7 : Node) (j8 : Int × Bool) (q30 : (Hp × Nat)) (v38 : (Option Entry) × (Option Entry) × Int × (List Entry) × (List Int) × Hp) (y39 : (Option Entry) × (Option Entry) × Int × (List Entry) × (List Int) × Int × Hp) : Option (((Option Entry) × (Option Entry) × Int × (List Entry) × (List Int) × Int × Hp) ⊕ ((Hp) ⊕ ((((Option Nat)) × Hp)))) :=
 bif (decide (y39.2.2.2.2.2.1 < (v38.2.2.2.2.1.length : Int))) then
  (idx v38.2.2.2.2.1 y39.2.2.2.2.2.1).bind fun x40 =>
  aX (fun (j41 : Bool) =>
   bif j41 then
    (dA (cI .i64) y39.2.2.2.2.2.2 p0 4 x1).bind fun H45 =>
    some (.inr (.inr (none, H45)))
   else
    aX (fun (j46 : (Option Entry)) =>
     aX (fun (j49 : (Option Entry)) =>
      (rc p0 (IntKind.wrap .i64 (j8.1 - 1)) (⟨j46, j49⟩ : T82) y39.2.2.2.2.2.2).bind fun r52 =>
      (Option.elim r52.1
       (some (.inr (.inr (none, r52.2))))
      (fun i53 =>
       (eF 1 cP r52.2 q30.2 1).bind fun q54 =>
       chk (decide ((q54.1 ++ [(some i53)]).length ≤ room)) <|
       (dB 1 cP q54.2 q30.2 1 (q54.1 ++ [(some i53)])).bind fun H55 =>
       some (.inl (y39.1, y39.2.1, y39.2.2.1, y39.2.2.2.1, y39.2.2.2.2.1, (IntKind.wrap .i64 (y39.2.2.2.2.2.1 + 1)), H55))))) fun jp50 =>
     bif (decide (y39.2.2.2.2.2.1 < (x7.Entries.length : Int))) then
      (idx y39.2.2.2.1 y39.2.2.2.2.2.1).bind fun x51 =>
      jp50 (some x51)
     else
      jp50 y39.2.1) fun jp47 =>
    bif (decide (y39.2.2.2.2.2.1 > 0)) then
     (idx y39.2.2.2.1 (IntKind.wrap .i64 (y39.2.2.2.2.2.1 - 1))).bind fun x48 =>
     jp47 (some x48)
    else
     jp47 y39.1) fun jp42 =>
  (bg (cI .i64).cell y39.2.2.2.2.2.2 p0 2).bind fun x43 =>
  bif (x40 != x43) then
   jp42 true
  else
   (cp 3 jI y39.2.2.2.2.2.2 p0 1).bind fun x44 =>
   jp42 (decide (x40 ≥ (x44.length : Int)))
 else
  some (.inr (.inl y39.2.2.2.2.2.2))
def cx (fuel : Nat) (rc : (Nat → Int → T82 → Hp → Option (((Option Nat)) × Hp))) (p0 : Nat) (p1 : Int) (p2 : T82) (H : Hp) : Option (((Option Nat)) × Hp) :=
 (bg (cI .i64).cell H p0 2).bind fun x1 =>
 (cp 3 jI H p0 1).bind fun x2 =>
 bif (decide (x1 ≥ (x2.length : Int))) then
  (dA (cI .i64) H p0 4 x1).bind fun H3 =>
  some (none, H3)
 else
  (bg (cI .i64).cell H p0 2).bind fun x4 =>
  (dA (cI .i64) H p0 2 (IntKind.wrap .i64 (x4 + 1))).bind fun H5 =>
  (cp 3 jI H5 p0 1).bind fun x6 =>
  (idx x6 x1).bind fun x7 =>
  aX (fun (j8 : Int × Bool) =>
   aX (fun (j10 : Int) =>
    aX (fun (j12 : Bool × Hp) =>
     bif j12.1 then
      (dA (cI .i64) j12.2 p0 4 x1).bind fun H15 =>
      some (none, H15)
     else
      aX (fun (j16 : (Option Entry) × (Option Entry)) =>
       (mw j12.2 (.cells [.own 3 (List.map ab ([] : List Entry)), .own 1 (List.map cP.enc ([] : List (Option Nat)))])).bind fun q30 =>
       (iter (bX fuel x7 q30) fuel (j16.1, j16.2, x7.Level, x7.Entries, x7.Kids, 0, q30.1)).bind fun v38 =>
       (iter (ba fuel rc p0 x1 x7 j8 q30 v38) fuel (v38.1, v38.2.1, v38.2.2.1, v38.2.2.2.1, v38.2.2.2.2.1, 0, v38.2.2.2.2.2)).bind (Sum.elim (fun v57 =>
        some ((some q30.2), v57)) (fun r58 =>
        some r58))) fun jp17 =>
      bif (decide ((x7.Entries.length : Int) > 0)) then
       (Option.elim p2.low
        ((Option.elim p2.high
         (jp17 (none, none))
        (fun x19 =>
         (idx x7.Entries (IntKind.wrap .i64 ((x7.Entries.length : Int) - 1))).bind fun x20 =>
         (bl fuel p0 x20 x19 j12.2).bind fun r21 =>
         bif (!r21) then
          (dA (cI .i64) j12.2 p0 4 x1).bind fun H22 =>
          some (none, H22)
         else
          jp17 (none, (some x19)))))
       (fun x18 =>
        (idx x7.Entries 0).bind fun x23 =>
        (bl fuel p0 x18 x23 j12.2).bind fun r24 =>
        bif (!r24) then
         (dA (cI .i64) j12.2 p0 4 x1).bind fun H25 =>
         some (none, H25)
        else
         (Option.elim p2.high
          (jp17 ((some x18), none))
         (fun x26 =>
          (idx x7.Entries (IntKind.wrap .i64 ((x7.Entries.length : Int) - 1))).bind fun x27 =>
          (bl fuel p0 x27 x26 j12.2).bind fun r28 =>
          bif (!r28) then
           (dA (cI .i64) j12.2 p0 4 x1).bind fun H29 =>
           some (none, H29)
          else
           jp17 ((some x18), (some x26))))))
      else
       jp17 (p2.low, p2.high)) fun jp13 =>
    (bI fuel p0 x7 j8.2 p2 H5).bind fun r14 =>
    bif (((!r14.1) || (decide (x7.Level < 0))) || (x7.Level != j8.1)) then
     jp13 (true, r14.2)
    else
     jp13 ((((x7.Kids.length : Int) != j10) || (j10 == 1)), r14.2)) fun jp11 =>
   bif (decide (x7.Level > 0)) then
    jp11 (IntKind.wrap .i64 ((x7.Entries.length : Int) + 1))
   else
    jp11 0) fun jp9 =>
  bif (x1 == 0) then
   jp9 (x7.Level, true)
  else
   jp9 (p1, false)
def bR : Nat → (Nat → Int → T82 → Hp → Option (((Option Nat)) × Hp))
 | 0 => fun _ _ _ _ => none
 | fuel + 1 => cx fuel (bR fuel)
def B7 (x0 : Entry) (x1 : T82) : SV := .box [.d (.aR [.list 3 (List.map ag x0.Row), .int .i64 x0.Key, .int .i64 x0.Number]), .d (aP ab x1.high)]
def DJ (x0 : Entry) : SV := .box [.d (.aR [.list 3 (List.map ag x0.Row), .int .i64 x0.Key, .int .i64 x0.Number]), .d (.aL)]
def B6 (x0 : Entry) (x1 : Entry) : SV := .box [.d (.aR [.list 3 (List.map ag x0.Row), .int .i64 x0.Key, .int .i64 x0.Number]), .d (.aR [.list 3 (List.map ag x1.Row), .int .i64 x1.Key, .int .i64 x1.Number])]
def DI (x0 : (Option Entry) × (Option Entry)) : SV := .box [.d (aP ab x0.1), .d (aP ab x0.2)]
def sk (x0 : (Option Entry) × (Option Entry) × Int × (List Entry) × (List Int) × Int × Hp) : SV := .box [.d (aP ab x0.1), .d (aP ab x0.2.1)]
def yC (x0 : (Option Entry) × (Option Entry) × Int × (List Entry) × (List Int) × Int × Hp) : SV := .box [vI x0.2.2.1, .d (.list 3 (List.map ab x0.2.2.2.1)), .d (.list 1 (List.map (D.int .i64) x0.2.2.2.2.1))]
def B5 (x0 : (Option Entry) × (Option Entry) × Int × (List Entry) × (List Int) × Int × Hp) (x1 : Node) : SV := vB (decide (x0.2.2.2.2.2.1 < (x1.Entries.length : Int)))
def B4 (x0 : (Option Entry) × (Option Entry) × Int × (List Entry) × (List Int) × Int × Hp) : SV := vI (IntKind.wrap .i64 (x0.2.2.2.2.2.1 + 1))
def AV (x0 : (Option Entry) × (Option Entry) × Int × (List Entry) × (List Int) × Hp) : SV := .box [.d (aP ab x0.1), .d (aP ab x0.2.1)]
def AU (x0 : (Option Entry) × (Option Entry) × Int × (List Entry) × (List Int) × Hp) : SV := .box [vI x0.2.2.1, .d (.list 3 (List.map ab x0.2.2.2.1)), .d (.list 1 (List.map (D.int .i64) x0.2.2.2.2.1))]
def dX (x0 : (Option Entry) × (Option Entry) × Int × (List Entry) × (List Int) × Hp) : SV := .d (.list 1 (List.map (D.int .i64) x0.2.2.2.2.1))
def en (x0 : (Option Entry) × (Option Entry) × Int × (List Entry) × (List Int) × Hp) : SV := vI (x0.2.2.2.2.1.length : Int)
def DH (x0 : Int × Bool) : SV := vI (IntKind.wrap .i64 (x0.1 - 1))
def B3 (x0 : ((List (Option Nat)) × Hp)) (x1 : Nat) : SV := .own 1 (List.map cP.enc (x0.1 ++ [(some x1)]))
def DG (x0 : (Option Entry) × (Option Entry) × Int × (List Entry) × (List Int) × Int × Hp) (x1 : (Option Entry) × (Option Entry) × Int × (List Entry) × (List Int) × Hp) : SV := vB (decide (x0.2.2.2.2.2.1 < (x1.2.2.2.2.1.length : Int)))
def DF (x0 : (Option Entry) × (Option Entry) × Int × (List Entry) × (List Int) × Int × Hp) : SV := vB (decide (x0.2.2.2.2.2.1 > 0))
def B2 (x0 : (Option Entry) × (Option Entry) × Int × (List Entry) × (List Int) × Int × Hp) : SV := .d (.list 3 (List.map ab x0.2.2.2.1))
def DE (x0 : (Option Entry) × (Option Entry) × Int × (List Entry) × (List Int) × Int × Hp) : SV := vI (IntKind.wrap .i64 (x0.2.2.2.2.2.1 - 1))
def DD (x0 : Entry) (x1 : (Option Entry) × (Option Entry) × Int × (List Entry) × (List Int) × Int × Hp) : SV := .box [.d (.aR [.list 3 (List.map ag x0.Row), .int .i64 x0.Key, .int .i64 x0.Number]), .d (aP ab x1.2.1)]
def AT (x0 : (Option Entry)) (x1 : (Option Entry) × (Option Entry) × Int × (List Entry) × (List Int) × Int × Hp) : SV := .box [.d (aP ab x0), .d (aP ab x1.2.1)]
def DC (x0 : (Option Entry)) (x1 : Entry) : SV := .box [.d (aP ab x0), .d (.aR [.list 3 (List.map ag x1.Row), .int .i64 x1.Key, .int .i64 x1.Number])]
def DB (x0 : (Option Entry)) (x1 : (Option Entry)) : SV := .d (.agg [aP ab x0, aP ab x1])
def K1 := fun a0 a1 a2 a3 a4 a5 a6 (t : SL) => ((0, .d (.ptr a0 0)) :: (1, vI a1) :: (5, sk a2) :: (7, vI a3) :: (9, yC a4) :: (10, Z8 a5) :: (12, .d (.ptr a6 0)) :: t : SL)
def K3 := fun a0 a1 (t : SL) => ((0, .d (.ptr a0 0)) :: (1, vI a1) :: t : SL)
def K9 := fun a0 a1 a2 a3 a4 a5 a6 a7 a8 a9 a10 (t : SL) => ((0, .d (.ptr a0 0)) :: (1, vI a1) :: (5, sk a2) :: (7, vI a3) :: (9, yC a4) :: (10, Z8 a5) :: (12, .d (.ptr a6 0)) :: (140, Z3 a7) :: (141, Z8 a8) :: (142, vI a9) :: (146, .d (.ptr a10 0)) :: t : SL)
def K17 := fun a0 a1 a2 a3 (t : SL) => ((0, .d (.ptr a0 0)) :: (1, vI a1) :: (5, yD a2) :: (7, vI a3) :: t : SL)
def K35 := fun a0 a1 a2 a3 a4 a5 a6 a7 a8 a9 a10 a11 (t : SL) => ((0, .d (.ptr a0 0)) :: (1, vI a1) :: (5, sk a2) :: (7, vI a3) :: (9, yC a4) :: (10, Z8 a5) :: (12, .d (.ptr a6 0)) :: (14, Z76 a7) :: (140, Z3 a8) :: (141, Z8 a9) :: (142, vI a10) :: (146, .d (.ptr a11 0)) :: t : SL)
def K46 := fun a0 a1 a2 a3 a4 a5 (t : SL) => ((0, .d (.ptr a0 0)) :: (1, vI a1) :: (5, yD a2) :: (7, vI a3) :: (9, eG a4) :: (10, Z8 a5) :: t : SL)
def K54 := fun a0 a1 a2 a3 a4 a5 a6 a7 a8 a9 (t : SL) => ((0, .d (.ptr a0 0)) :: (1, vI a1) :: (5, .box [.d (aP ab a2), .d (aP ab a3)]) :: (7, vI a4) :: (9, .box [vI a5, .d (.list 3 (List.map ab a6)), .d (.list 1 (List.map (D.int .i64) a7))]) :: (10, Z8 a8) :: (12, .d (.ptr a9 0)) :: t : SL)
def K59 := fun a0 a1 a2 a3 a4 a5 a6 (t : SL) => ((0, .d (.ptr a0 0)) :: (1, vI a1) :: (5, B7 a2 a3) :: (7, vI a4) :: (9, eG a5) :: (10, Z8 a6) :: (95, vB true) :: t : SL)
def K74 := fun a0 a1 a2 a3 a4 a5 (t : SL) => ((0, .d (.ptr a0 0)) :: (1, vI a1) :: (5, B9 a2) :: (7, vI a3) :: (9, eG a4) :: (10, Z8 a5) :: (95, vB true) :: (112, vB false) :: (116, vB true) :: t : SL)
def K76 := fun a0 a1 a2 a3 a4 a5 a6 (t : SL) => ((0, .d (.ptr a0 0)) :: (1, vI a1) :: (5, B6 a2 a3) :: (7, vI a4) :: (9, eG a5) :: (10, Z8 a6) :: (95, vB true) :: (112, vB false) :: (116, vB true) :: t : SL)
def K78 := fun a0 a1 a2 a3 a4 a5 a6 a7 a8 a9 (t : SL) => ((0, .d (.ptr a0 0)) :: (1, vI a1) :: (5, sk a2) :: (7, vI a3) :: (9, yC a4) :: (10, Z8 a5) :: (12, .d (.ptr a6 0)) :: (140, Z3 a7) :: (141, Z8 a8) :: (142, vI a9) :: t : SL)
def K85 := fun a0 a1 a2 a3 a4 a5 a6 a7 a8 a9 (t : SL) => ((0, .d (.ptr a0 0)) :: (1, vI a1) :: (5, sk a2) :: (7, vI a3) :: (9, yC a4) :: (10, Z8 a5) :: (12, .d (.ptr a6 0)) :: (161, dX a7) :: (162, en a8) :: (163, vI a9) :: t : SL)
def K87 := fun a0 a1 a2 a3 a4 a5 (t : SL) => ((0, .d (.ptr a0 0)) :: (1, vI a1) :: (5, DI a2) :: (7, vI a3) :: (9, eG a4) :: (10, Z8 a5) :: t : SL)
theorem lx {fuel : Nat} {rc : (Nat → Int → T82 → Hp → Option (((Option Nat)) × Hp))} (ih : ∀ {p0 : Nat} {p1 : Int} {p2 : T82} {H : Hp} {r : ((Option Nat)) × Hp}, rc p0 p1 p2 H = some r → SC Try.prog false 29 [.d (.ptr p0 0), vI p1, .d (rZ p2)] H (.d (cP.enc r.1)) r.2) {p0 : Nat} {p1 : Int} {p2 : T82} {H : Hp} {r : ((Option Nat)) × Hp} (h : cx fuel rc p0 p1 p2 H = some r) : SC Try.prog false 29 [.d (.ptr p0 0), vI p1, .d (rZ p2)] H (.d (cP.enc r.1)) r.2 := by
 refine SC.ga Try.func29 rfl ?_
 unfold cx at h
 refine SW.kp 223 H [0, 1, 2] (K3 p0 p1 [(2, AZ p2)]) (by kernel_rfl) <| SW.R 1 (K3 p0 p1 [(5, yD p2)]) <| SW.S <| OWk.G 3 (K3 p0 p1 [(5, yD p2), (21, .d (.ptr p0 2))]) ?_
 obtain ⟨x1, hx, h⟩ := aa h
 refine OWk.O (d := some 22) (s := vI x1) (K3 p0 p1 [(5, yD p2), (22, vI x1)]) (BAt.ldH (c := (cI .i64).cell) hx (by kernel_rfl)) <| OWk.G 1 (K17 p0 p1 p2 x1 []) <| OWk.E <| SW.R 1 (K17 p0 p1 p2 x1 [(8, vB (x1 == 0))]) <| SW.seq <| SW.S <| OWk.G 4 (K17 p0 p1 p2 x1 [(8, vB (x1 == 0)), (25, vI x1), (28, .d (.ptr p0 1))]) ?_
 obtain ⟨x2, hx, h⟩ := aa h
 refine OWk.O (d := some 29) (s := .bf (.ai p0 1) 3 (List.map aI x2)) (K17 p0 p1 p2 x1 [(8, vB (x1 == 0)), (25, vI x1), (29, zJ p0 x2)]) (BAt.ldL (c := jI) hx (by kernel_rfl)) <| OWk.O (d := some 30) (K17 p0 p1 p2 x1 [(8, vB (x1 == 0)), (25, vI x1), (30, vI (x2.length : Int))]) (BAt.len (enc := aI) (xs := x2) (by kernel_rfl)) <| OWk.G 1 (K17 p0 p1 p2 x1 [(8, vB (x1 == 0)), (31, A0 x1 x2)]) <| OWk.E ?_
 refine SW.B (decide (x1 ≥ (x2.length : Int))) (fun hc => ?_) (fun hc => ?_)
 ·replace h := an hc h
  refine SW.S <| OWk.G 4 [(33, vI x1), (35, .d (.ptr p0 4))] ?_
  obtain ⟨H3, hx, h⟩ := aa h
  refine OWk.hst 223 H3 [] [] hx (by kernel_rfl) (by kernel_rfl) <| OWk.E <| SW.R 1 [(6, .d (.aL))] <| SW.ret <| af ?_
  cases h
  exact aA.ret [] (by kernel_rfl) rfl
 ·replace h := ao hc h
  refine SW.skip <| ad <| SW.S <| OWk.G 3 (K17 p0 p1 p2 x1 [(8, vB (x1 == 0)), (36, .d (.ptr p0 0)), (38, .d (.ptr p0 2))]) ?_
  obtain ⟨x4, hx, h⟩ := aa h
  refine OWk.O (d := some 39) (s := vI x4) (K17 p0 p1 p2 x1 [(8, vB (x1 == 0)), (36, .d (.ptr p0 0)), (39, vI x4)]) (BAt.ldH (c := (cI .i64).cell) hx (by kernel_rfl)) <| OWk.G 3 (K17 p0 p1 p2 x1 [(8, vB (x1 == 0)), (40, Z18 x4), (42, .d (.ptr p0 2))]) ?_
  obtain ⟨H5, hx, h⟩ := aa h
  refine OWk.hst 223 H5 [0, 1, 5, 7, 8] (K17 p0 p1 p2 x1 [(8, vB (x1 == 0))]) hx (by kernel_rfl) (by kernel_rfl) <| OWk.E <| SW.S <| OWk.G 3 (K17 p0 p1 p2 x1 [(8, vB (x1 == 0)), (45, .d (.ptr p0 1))]) ?_
  obtain ⟨x6, hx, h⟩ := aa h
  refine OWk.O (d := some 46) (s := .bf (.ai p0 1) 3 (List.map aI x6)) (K17 p0 p1 p2 x1 [(8, vB (x1 == 0)), (46, zJ p0 x6)]) (BAt.ldL (c := jI) hx (by kernel_rfl)) <| OWk.G 1 (K17 p0 p1 p2 x1 [(8, vB (x1 == 0)), (46, zJ p0 x6), (47, vI x1)]) ?_
  obtain ⟨x7, hx, h⟩ := aa h
  refine OWk.O (d := some 48) (s := aO (some (.ai p0 1)) (Go.Sh.D.cells (aI x7))) (K17 p0 p1 p2 x1 [(8, vB (x1 == 0)), (48, .bO (.ai p0 1) [.int .i64 x7.Level, .list 3 (List.map ab x7.Entries), .list 1 (List.map (D.int .i64) x7.Kids)])]) (BAt.index (n := 3) hx (by kernel_rfl)) <| OWk.G 3 (K17 p0 p1 p2 x1 [(8, vB (x1 == 0)), (9, eG x7)]) <| OWk.E ?_
  obtain ⟨jp9, hjjp9, h⟩ := bt h
  refine SW.jn 223 H5 [0, 1, 5, 7, 8, 9] (fun (j8 : Int × Bool) => (K17 p0 j8.1 p2 x1 [(8, vB j8.2), (9, eG x7)])) (fun v => jp9 v = some r) (fun j8 h => ?_) ?_
  ·rw [hjjp9] at h
   refine SW.S <| OWk.G 2 (K17 p0 j8.1 p2 x1 [(8, vB j8.2), (9, eG x7), (54, Z3 x7)]) <| OWk.O (d := some 55) (K17 p0 j8.1 p2 x1 [(8, vB j8.2), (9, eG x7), (55, Z8 x7)]) (BAt.len (enc := ab) (xs := x7.Entries) (by kernel_rfl)) <| OWk.G 1 (K17 p0 j8.1 p2 x1 [(8, vB j8.2), (9, eG x7), (10, Z8 x7)]) <| OWk.E <| SW.R 1 (K17 p0 j8.1 p2 x1 [(8, vB j8.2), (9, eG x7), (10, Z8 x7), (11, vI 0)]) ?_
   obtain ⟨jp11, hjjp11, h⟩ := bt h
   refine SW.jn 223 H5 [0, 1, 5, 7, 8, 9, 10, 11] (fun (j10 : Int) => (K17 p0 j8.1 p2 x1 [(8, vB j8.2), (9, eG x7), (10, Z8 x7), (11, vI j10)])) (fun v => jp11 v = some r) (fun j10 h => ?_) ?_
   ·rw [hjjp11] at h
    refine SW.seq ?_
    obtain ⟨jp13, hjjp13, h⟩ := bt h
    refine SW.jnH 223 [0, 1, 5, 7, 9, 10, 88] (fun (j12 : Bool × Hp) => (K46 p0 j8.1 p2 x1 x7 x7 [(88, vB j12.1)])) (fun (j12 : Bool × Hp) => j12.2) (fun v => jp13 v = some r) (fun j12 h => ?_) ?_
    ·rw [hjjp13] at h
     refine SW.B j12.1 (fun hc => ?_) (fun hc => ?_)
     ·replace h := an hc h
      refine SW.S <| OWk.G 4 [(90, vI x1), (92, .d (.ptr p0 4))] ?_
      obtain ⟨H15, hx, h⟩ := aa h
      refine OWk.hst 223 H15 [] [] hx (by kernel_rfl) (by kernel_rfl) <| OWk.E <| SW.R 1 [(6, .d (.aL))] <| SW.ret <| af ?_
      cases h
      exact aA.ret [] (by kernel_rfl) rfl
     ·replace h := ao hc h
      refine SW.skip <| ad ?_
      obtain ⟨jp17, hjjp17, h⟩ := bt h
      refine SW.jn 223 j12.2 [0, 1, 5, 7, 9, 10] (fun (j16 : (Option Entry) × (Option Entry)) => (K3 p0 j8.1 [(5, .box [.d (aP ab j16.1), .d (aP ab j16.2)]), (7, vI x1), (9, eG x7), (10, Z8 x7)])) (fun v => jp17 v = some r) (fun j16 h => ?_) ?_
      ·rw [hjjp17] at h
       refine SW.S <| OWk.G 1 (K87 p0 j8.1 j16 x1 x7 x7 [(137, Z49)]) ?_
       obtain ⟨q30, hq, h⟩ := aa h
       refine OWk.iQ 223 q30.1 (d := some 138) (b := false) [(0, 3, true), (1, 1, true)] [0, 1, 5, 7, 9, 10, 138] (K87 p0 j8.1 j16 x1 x7 x7 [(138, .d (.ptr q30.2 0))]) hq (by kernel_rfl) rfl (by kernel_rfl) <| OWk.G 1 (K87 p0 j8.1 j16 x1 x7 x7 [(12, .d (.ptr q30.2 0))]) <| OWk.E <| SW.seq <| SW.S <| OWk.G 2 (K87 p0 j8.1 j16 x1 x7 x7 [(12, .d (.ptr q30.2 0)), (140, Z3 x7)]) <| OWk.O (d := some 141) (K87 p0 j8.1 j16 x1 x7 x7 [(12, .d (.ptr q30.2 0)), (140, Z3 x7), (141, Z8 x7)]) (BAt.len (enc := ab) (xs := x7.Entries) (by kernel_rfl)) <| OWk.G 1 (K87 p0 j8.1 j16 x1 x7 x7 [(12, .d (.ptr q30.2 0)), (140, Z3 x7), (141, Z8 x7), (142, vI 0)]) <| OWk.E <| SW.block ?_
       obtain ⟨v38, hit, h⟩ := aa h
       refine SW.itH 223 [0, 1, 5, 7, 9, 10, 12, 140, 141, 142] (fun y31 => (K54 p0 j8.1 y31.1 y31.2.1 x1 y31.2.2.1 y31.2.2.2.1 y31.2.2.2.2.1 x7 q30.2 [(140, Z3 x7), (141, Z8 x7), (142, vI y31.2.2.2.2.2.1)])) (fun y31 => y31.2.2.2.2.2.2) (fun v38 e s => (e = .exit 0 ∧ s = (sp 223 (K54 p0 j8.1 v38.1 v38.2.1 x1 v38.2.2.1 v38.2.2.2.1 v38.2.2.2.2.1 x7 q30.2 []) v38.2.2.2.2.2))) hit (by kernel_rfl) (fun y31 o h => ?_) ?_
       ·unfold bX at h
        refine SW.R 1 (K78 p0 j8.1 y31 x1 y31 x7 q30.2 x7 x7 y31.2.2.2.2.2.1 [(143, B5 y31 x7)]) <| SW.seq ?_
        refine SW.B (decide (y31.2.2.2.2.2.1 < (x7.Entries.length : Int))) (fun hc => ?_) (fun hc => ?_)
        ·replace h := an hc h
         refine SW.skip <| ad <| SW.seq <| SW.block <| SW.S ?_
         obtain ⟨x32, hx, h⟩ := aa h
         refine OWk.O (d := some 144) (s := aO none (Go.Sh.D.cells (ab x32))) (K78 p0 j8.1 y31 x1 y31 x7 q30.2 x7 x7 y31.2.2.2.2.2.1 [(144, .d (.aR [.list 3 (List.map ag x32.Row), .int .i64 x32.Key, .int .i64 x32.Number]))]) (BAt.index (n := 3) hx (by kernel_rfl)) <| OWk.G 3 (K1 p0 j8.1 y31 x1 y31 x7 q30.2 [(14, Z76 x32), (140, Z3 x7), (141, Z8 x7), (142, vI y31.2.2.2.2.2.1)]) <| OWk.E ?_
         obtain ⟨q33, hq_5, h⟩ := aa h
         obtain ⟨r34, hr_7, h⟩ := aa h
         obtain ⟨hk35, h⟩ := bH h
         obtain ⟨H36, hx_13, h⟩ := aa h
         refine SW.K (K1 p0 j8.1 y31 x1 y31 x7 q30.2 [(14, Z76 x32), (140, Z3 x7), (141, Z8 x7), (142, vI y31.2.2.2.2.2.1)]) ?_
         refine SW.nB 223 H36 (K78 p0 j8.1 y31 x1 y31 x7 q30.2 x7 x7 y31.2.2.2.2.2.1 []) [0, 1] 12 3 (by kernel_rfl) (by kernel_rfl) (by kernel_rfl) (fun X hX => ?_) ?_
         ·have c16383 : X 0 16383 (sp 223 (K78 p0 j8.1 y31 x1 y31 x7 q30.2 x7 x7 y31.2.2.2.2.2.1 []) H36) := by subst hX; exact OX.fin (by kernel_rfl)
          have c8191 : X 1 8191 (sp 223 (K78 p0 j8.1 y31 x1 y31 x7 q30.2 x7 x7 y31.2.2.2.2.2.1 [(155, qp q33 r34), (158, .d (.ptr q30.2 0))]) q33.2) := by
           subst hX
           refine OX.step (i0 := 13) (is := []) (by kernel_rfl) (by kernel_rfl) ⟨?_, trivial⟩
           ·refine OWk.gvH (c := aK) (n' := 3) (s := 155) (xs := (q33.1 ++ [r34])) 223 [0, 1, 5, 7, 9, 10, 12, 140, 141, 142] (K78 p0 j8.1 y31 x1 y31 x7 q30.2 x7 x7 y31.2.2.2.2.2.1 []) hx_13 (by kernel_rfl) (by kernel_rfl) <| OWk.D ?_
            exact c16383
          have c4095 : X 2 4095 (sp 223 (K78 p0 j8.1 y31 x1 y31 x7 q30.2 x7 x7 y31.2.2.2.2.2.1 [(155, qp q33 r34), (157, .d (.ptr q30.2 0))]) q33.2) := by
           subst hX
           refine OX.step (i0 := 12) (is := []) (by kernel_rfl) (by kernel_rfl) ⟨?_, trivial⟩
           ·refine OWk.sg 223 q33.2 [151] [0, 1, 5, 7, 9, 10, 12, 140, 141, 142, 155, 158] 1 (K78 p0 j8.1 y31 x1 y31 x7 q30.2 x7 x7 y31.2.2.2.2.2.1 [(155, qp q33 r34), (158, .d (.ptr q30.2 0))]) (by kernel_rfl) <| OWk.D ?_
            exact c8191
          have c2047 : X 3 2047 (sp 223 (K78 p0 j8.1 y31 x1 y31 x7 q30.2 x7 x7 y31.2.2.2.2.2.1 [(155, qp q33 r34), (156, .d (.ptr q30.2 0))]) q33.2) := by
           subst hX
           refine OX.step (i0 := 11) (is := []) (by kernel_rfl) (by kernel_rfl) ⟨?_, trivial⟩
           ·refine OWk.sg 223 q33.2 [151] [0, 1, 5, 7, 9, 10, 12, 140, 141, 142, 155, 157] 1 (K78 p0 j8.1 y31 x1 y31 x7 q30.2 x7 x7 y31.2.2.2.2.2.1 [(155, qp q33 r34), (157, .d (.ptr q30.2 0))]) (by kernel_rfl) <| OWk.D ?_
            exact c4095
          have c1023 : X 4 1023 (sp 223 (K9 p0 j8.1 y31 x1 y31 x7 q30.2 x7 x7 y31.2.2.2.2.2.1 q30.2 [(155, qp q33 r34)]) q33.2) := by
           subst hX
           refine OX.step (i0 := 10) (is := []) (by kernel_rfl) (by kernel_rfl) ⟨?_, trivial⟩
           ·refine OWk.sg 223 q33.2 [151] [0, 1, 5, 7, 9, 10, 12, 140, 141, 142, 155, 156] 1 (K78 p0 j8.1 y31 x1 y31 x7 q30.2 x7 x7 y31.2.2.2.2.2.1 [(155, qp q33 r34), (156, .d (.ptr q30.2 0))]) (by kernel_rfl) <| OWk.D ?_
            exact c2047
          have c511 : X 5 511 (sp 223 (K9 p0 j8.1 y31 x1 y31 x7 q30.2 x7 x7 y31.2.2.2.2.2.1 q30.2 [(151, iy q33), (154, gI r34)]) q33.2) := by
           subst hX
           refine OX.step (i0 := 9) (is := []) (by kernel_rfl) (by kernel_rfl) ⟨?_, trivial⟩
           ·refine OWk.app 223 q33.2 (s := 151) (d := 155) (w := 3) [0, 1, 5, 7, 9, 10, 12, 140, 141, 142, 146, 155] (zs := List.map ab (q33.1 ++ [r34])) (K9 p0 j8.1 y31 x1 y31 x7 q30.2 x7 x7 y31.2.2.2.2.2.1 q30.2 [(155, qp q33 r34)]) (ys := (List.map ab [r34])) (by kernel_rfl) (aY) (bY hk35) (by kernel_rfl) <| OWk.D ?_
            exact c1023
          have c255 : X 6 255 (sp 223 (K9 p0 j8.1 y31 x1 y31 x7 q30.2 x7 x7 y31.2.2.2.2.2.1 q30.2 [(151, iy q33), (153, Z77 r34)]) q33.2) := by
           subst hX
           refine OX.step (i0 := 8) (is := []) (by kernel_rfl) (by kernel_rfl) ⟨?_, trivial⟩
           ·refine OWk.sg 223 q33.2 [151] [0, 1, 5, 7, 9, 10, 12, 140, 141, 142, 146, 151, 154] 1 (K9 p0 j8.1 y31 x1 y31 x7 q30.2 x7 x7 y31.2.2.2.2.2.1 q30.2 [(151, iy q33), (154, gI r34)]) (by kernel_rfl) <| OWk.D ?_
            exact c511
          have c127 : X 7 127 (sp 223 (K9 p0 j8.1 y31 x1 y31 x7 q30.2 x7 x7 y31.2.2.2.2.2.1 q30.2 [(151, iy q33), (152, Z77 x32)]) q33.2) := by
           subst hX
           refine OX.step (i0 := 7) (is := []) (by kernel_rfl) (by kernel_rfl) ⟨?_, trivial⟩
           ·refine OWk.C0 (some 153) (K9 p0 j8.1 y31 x1 y31 x7 q30.2 x7 x7 y31.2.2.2.2.2.1 q30.2 [(151, iy q33), (153, .d (.agg [.list 3 (List.map ag r34.Row), .int .i64 r34.Key, .int .i64 r34.Number]))]) (eA hr_7) <| OWk.D ?_
            exact c255
          have c63 : X 8 63 (sp 223 (K35 p0 j8.1 y31 x1 y31 x7 q30.2 x32 x7 x7 y31.2.2.2.2.2.1 q30.2 [(151, iy q33)]) q33.2) := by
           subst hX
           refine OX.step (i0 := 6) (is := []) (by kernel_rfl) (by kernel_rfl) ⟨?_, trivial⟩
           ·refine OWk.sg 223 q33.2 [151] [0, 1, 5, 7, 9, 10, 12, 140, 141, 142, 146, 151, 152] 1 (K9 p0 j8.1 y31 x1 y31 x7 q30.2 x7 x7 y31.2.2.2.2.2.1 q30.2 [(151, iy q33), (152, Z77 x32)]) (by kernel_rfl) <| OWk.D ?_
            exact c127
          have c479 : X 6 479 (sp 223 (K9 p0 j8.1 y31 x1 y31 x7 q30.2 x7 x7 y31.2.2.2.2.2.1 q30.2 [(150, .d (.ptr q30.2 0)), (154, gI r34)]) y31.2.2.2.2.2.2) := by
           subst hX
           refine OX.step (i0 := 5) (is := []) (by kernel_rfl) (by kernel_rfl) ⟨?_, trivial⟩
           ·refine OWk.tkH (c := aK) (n' := 3) (d := 151) (xs := q33.1) 223 [0, 1, 5, 7, 9, 10, 12, 140, 141, 142, 146, 151, 154] (K9 p0 j8.1 y31 x1 y31 x7 q30.2 x7 x7 y31.2.2.2.2.2.1 q30.2 [(151, iy q33), (154, gI r34)]) hq_5 (by kernel_rfl) (by kernel_rfl) <| OWk.D ?_
            exact c511
          have c223 : X 7 223 (sp 223 (K9 p0 j8.1 y31 x1 y31 x7 q30.2 x7 x7 y31.2.2.2.2.2.1 q30.2 [(150, .d (.ptr q30.2 0)), (153, Z77 r34)]) y31.2.2.2.2.2.2) := by
           subst hX
           refine OX.step (i0 := 5) (is := [8]) (by kernel_rfl) (by kernel_rfl) ⟨?_, ?_, trivial⟩
           ·refine OWk.tkH (c := aK) (n' := 3) (d := 151) (xs := q33.1) 223 [0, 1, 5, 7, 9, 10, 12, 140, 141, 142, 146, 151, 153] (K9 p0 j8.1 y31 x1 y31 x7 q30.2 x7 x7 y31.2.2.2.2.2.1 q30.2 [(151, iy q33), (153, Z77 r34)]) hq_5 (by kernel_rfl) (by kernel_rfl) <| OWk.D ?_
            exact c255
           ·refine OWk.sg 223 y31.2.2.2.2.2.2 [151] [0, 1, 5, 7, 9, 10, 12, 140, 141, 142, 146, 150, 154] 1 (K9 p0 j8.1 y31 x1 y31 x7 q30.2 x7 x7 y31.2.2.2.2.2.1 q30.2 [(150, .d (.ptr q30.2 0)), (154, gI r34)]) (by kernel_rfl) <| OWk.D ?_
            exact c479
          have c95 : X 8 95 (sp 223 (K9 p0 j8.1 y31 x1 y31 x7 q30.2 x7 x7 y31.2.2.2.2.2.1 q30.2 [(150, .d (.ptr q30.2 0)), (152, Z77 x32)]) y31.2.2.2.2.2.2) := by
           subst hX
           refine OX.step (i0 := 5) (is := [7]) (by kernel_rfl) (by kernel_rfl) ⟨?_, ?_, trivial⟩
           ·refine OWk.tkH (c := aK) (n' := 3) (d := 151) (xs := q33.1) 223 [0, 1, 5, 7, 9, 10, 12, 140, 141, 142, 146, 151, 152] (K9 p0 j8.1 y31 x1 y31 x7 q30.2 x7 x7 y31.2.2.2.2.2.1 q30.2 [(151, iy q33), (152, Z77 x32)]) hq_5 (by kernel_rfl) (by kernel_rfl) <| OWk.D ?_
            exact c127
           ·refine OWk.C0 (some 153) (K9 p0 j8.1 y31 x1 y31 x7 q30.2 x7 x7 y31.2.2.2.2.2.1 q30.2 [(150, .d (.ptr q30.2 0)), (153, Z77 r34)]) (eA hr_7) <| OWk.D ?_
            exact c223
          have c31 : X 9 31 (sp 223 (K35 p0 j8.1 y31 x1 y31 x7 q30.2 x32 x7 x7 y31.2.2.2.2.2.1 q30.2 [(150, .d (.ptr q30.2 0))]) y31.2.2.2.2.2.2) := by
           subst hX
           refine OX.step (i0 := 5) (is := [6]) (by kernel_rfl) (by kernel_rfl) ⟨?_, ?_, trivial⟩
           ·refine OWk.tkH (c := aK) (n' := 3) (d := 151) (xs := q33.1) 223 [0, 1, 5, 7, 9, 10, 12, 14, 140, 141, 142, 146, 151] (K35 p0 j8.1 y31 x1 y31 x7 q30.2 x32 x7 x7 y31.2.2.2.2.2.1 q30.2 [(151, .own 3 (List.map ab q33.1))]) hq_5 (by kernel_rfl) (by kernel_rfl) <| OWk.D ?_
            exact c63
           ·refine OWk.sg 223 y31.2.2.2.2.2.2 [151] [0, 1, 5, 7, 9, 10, 12, 140, 141, 142, 146, 150, 152] 1 (K9 p0 j8.1 y31 x1 y31 x7 q30.2 x7 x7 y31.2.2.2.2.2.1 q30.2 [(150, .d (.ptr q30.2 0)), (152, Z77 x32)]) (by kernel_rfl) <| OWk.D ?_
            exact c95
          have c463 : X 7 463 (sp 223 (K9 p0 j8.1 y31 x1 y31 x7 q30.2 x7 x7 y31.2.2.2.2.2.1 q30.2 [(149, .d (.ptr q30.2 0)), (154, gI r34)]) y31.2.2.2.2.2.2) := by
           subst hX
           refine OX.step (i0 := 4) (is := []) (by kernel_rfl) (by kernel_rfl) ⟨?_, trivial⟩
           ·refine OWk.sg 223 y31.2.2.2.2.2.2 [151] [0, 1, 5, 7, 9, 10, 12, 140, 141, 142, 146, 150, 154] 1 (K9 p0 j8.1 y31 x1 y31 x7 q30.2 x7 x7 y31.2.2.2.2.2.1 q30.2 [(150, .d (.ptr q30.2 0)), (154, gI r34)]) (by kernel_rfl) <| OWk.D ?_
            exact c479
          have c207 : X 8 207 (sp 223 (K9 p0 j8.1 y31 x1 y31 x7 q30.2 x7 x7 y31.2.2.2.2.2.1 q30.2 [(149, .d (.ptr q30.2 0)), (153, Z77 r34)]) y31.2.2.2.2.2.2) := by
           subst hX
           refine OX.step (i0 := 4) (is := [8]) (by kernel_rfl) (by kernel_rfl) ⟨?_, ?_, trivial⟩
           ·refine OWk.sg 223 y31.2.2.2.2.2.2 [151] [0, 1, 5, 7, 9, 10, 12, 140, 141, 142, 146, 150, 153] 1 (K9 p0 j8.1 y31 x1 y31 x7 q30.2 x7 x7 y31.2.2.2.2.2.1 q30.2 [(150, .d (.ptr q30.2 0)), (153, Z77 r34)]) (by kernel_rfl) <| OWk.D ?_
            exact c223
           ·refine OWk.sg 223 y31.2.2.2.2.2.2 [151] [0, 1, 5, 7, 9, 10, 12, 140, 141, 142, 146, 149, 154] 1 (K9 p0 j8.1 y31 x1 y31 x7 q30.2 x7 x7 y31.2.2.2.2.2.1 q30.2 [(149, .d (.ptr q30.2 0)), (154, gI r34)]) (by kernel_rfl) <| OWk.D ?_
            exact c463
          have c79 : X 9 79 (sp 223 (K9 p0 j8.1 y31 x1 y31 x7 q30.2 x7 x7 y31.2.2.2.2.2.1 q30.2 [(149, .d (.ptr q30.2 0)), (152, Z77 x32)]) y31.2.2.2.2.2.2) := by
           subst hX
           refine OX.step (i0 := 4) (is := [7]) (by kernel_rfl) (by kernel_rfl) ⟨?_, ?_, trivial⟩
           ·refine OWk.sg 223 y31.2.2.2.2.2.2 [151] [0, 1, 5, 7, 9, 10, 12, 140, 141, 142, 146, 150, 152] 1 (K9 p0 j8.1 y31 x1 y31 x7 q30.2 x7 x7 y31.2.2.2.2.2.1 q30.2 [(150, .d (.ptr q30.2 0)), (152, Z77 x32)]) (by kernel_rfl) <| OWk.D ?_
            exact c95
           ·refine OWk.C0 (some 153) (K9 p0 j8.1 y31 x1 y31 x7 q30.2 x7 x7 y31.2.2.2.2.2.1 q30.2 [(149, .d (.ptr q30.2 0)), (153, Z77 r34)]) (eA hr_7) <| OWk.D ?_
            exact c207
          have c15 : X 10 15 (sp 223 (K35 p0 j8.1 y31 x1 y31 x7 q30.2 x32 x7 x7 y31.2.2.2.2.2.1 q30.2 [(149, .d (.ptr q30.2 0))]) y31.2.2.2.2.2.2) := by
           subst hX
           refine OX.step (i0 := 4) (is := [6]) (by kernel_rfl) (by kernel_rfl) ⟨?_, ?_, trivial⟩
           ·refine OWk.sg 223 y31.2.2.2.2.2.2 [151] [0, 1, 5, 7, 9, 10, 12, 14, 140, 141, 142, 146, 150] 1 (K35 p0 j8.1 y31 x1 y31 x7 q30.2 x32 x7 x7 y31.2.2.2.2.2.1 q30.2 [(150, .d (.ptr q30.2 0))]) (by kernel_rfl) <| OWk.D ?_
            exact c31
           ·refine OWk.sg 223 y31.2.2.2.2.2.2 [151] [0, 1, 5, 7, 9, 10, 12, 140, 141, 142, 146, 149, 152] 1 (K9 p0 j8.1 y31 x1 y31 x7 q30.2 x7 x7 y31.2.2.2.2.2.1 q30.2 [(149, .d (.ptr q30.2 0)), (152, Z77 x32)]) (by kernel_rfl) <| OWk.D ?_
            exact c79
          have c455 : X 8 455 (sp 223 (K9 p0 j8.1 y31 x1 y31 x7 q30.2 x7 x7 y31.2.2.2.2.2.1 q30.2 [(148, .d (.ptr q30.2 0)), (154, gI r34)]) y31.2.2.2.2.2.2) := by
           subst hX
           refine OX.step (i0 := 3) (is := []) (by kernel_rfl) (by kernel_rfl) ⟨?_, trivial⟩
           ·refine OWk.sg 223 y31.2.2.2.2.2.2 [151] [0, 1, 5, 7, 9, 10, 12, 140, 141, 142, 146, 149, 154] 1 (K9 p0 j8.1 y31 x1 y31 x7 q30.2 x7 x7 y31.2.2.2.2.2.1 q30.2 [(149, .d (.ptr q30.2 0)), (154, gI r34)]) (by kernel_rfl) <| OWk.D ?_
            exact c463
          have c199 : X 9 199 (sp 223 (K9 p0 j8.1 y31 x1 y31 x7 q30.2 x7 x7 y31.2.2.2.2.2.1 q30.2 [(148, .d (.ptr q30.2 0)), (153, Z77 r34)]) y31.2.2.2.2.2.2) := by
           subst hX
           refine OX.step (i0 := 3) (is := [8]) (by kernel_rfl) (by kernel_rfl) ⟨?_, ?_, trivial⟩
           ·refine OWk.sg 223 y31.2.2.2.2.2.2 [151] [0, 1, 5, 7, 9, 10, 12, 140, 141, 142, 146, 149, 153] 1 (K9 p0 j8.1 y31 x1 y31 x7 q30.2 x7 x7 y31.2.2.2.2.2.1 q30.2 [(149, .d (.ptr q30.2 0)), (153, Z77 r34)]) (by kernel_rfl) <| OWk.D ?_
            exact c207
           ·refine OWk.sg 223 y31.2.2.2.2.2.2 [151] [0, 1, 5, 7, 9, 10, 12, 140, 141, 142, 146, 148, 154] 1 (K9 p0 j8.1 y31 x1 y31 x7 q30.2 x7 x7 y31.2.2.2.2.2.1 q30.2 [(148, .d (.ptr q30.2 0)), (154, gI r34)]) (by kernel_rfl) <| OWk.D ?_
            exact c455
          have c71 : X 10 71 (sp 223 (K9 p0 j8.1 y31 x1 y31 x7 q30.2 x7 x7 y31.2.2.2.2.2.1 q30.2 [(148, .d (.ptr q30.2 0)), (152, Z77 x32)]) y31.2.2.2.2.2.2) := by
           subst hX
           refine OX.step (i0 := 3) (is := [7]) (by kernel_rfl) (by kernel_rfl) ⟨?_, ?_, trivial⟩
           ·refine OWk.sg 223 y31.2.2.2.2.2.2 [151] [0, 1, 5, 7, 9, 10, 12, 140, 141, 142, 146, 149, 152] 1 (K9 p0 j8.1 y31 x1 y31 x7 q30.2 x7 x7 y31.2.2.2.2.2.1 q30.2 [(149, .d (.ptr q30.2 0)), (152, Z77 x32)]) (by kernel_rfl) <| OWk.D ?_
            exact c79
           ·refine OWk.C0 (some 153) (K9 p0 j8.1 y31 x1 y31 x7 q30.2 x7 x7 y31.2.2.2.2.2.1 q30.2 [(148, .d (.ptr q30.2 0)), (153, Z77 r34)]) (eA hr_7) <| OWk.D ?_
            exact c199
          have c7 : X 11 7 (sp 223 (K35 p0 j8.1 y31 x1 y31 x7 q30.2 x32 x7 x7 y31.2.2.2.2.2.1 q30.2 [(148, .d (.ptr q30.2 0))]) y31.2.2.2.2.2.2) := by
           subst hX
           refine OX.step (i0 := 3) (is := [6]) (by kernel_rfl) (by kernel_rfl) ⟨?_, ?_, trivial⟩
           ·refine OWk.sg 223 y31.2.2.2.2.2.2 [151] [0, 1, 5, 7, 9, 10, 12, 14, 140, 141, 142, 146, 149] 1 (K35 p0 j8.1 y31 x1 y31 x7 q30.2 x32 x7 x7 y31.2.2.2.2.2.1 q30.2 [(149, .d (.ptr q30.2 0))]) (by kernel_rfl) <| OWk.D ?_
            exact c15
           ·refine OWk.sg 223 y31.2.2.2.2.2.2 [151] [0, 1, 5, 7, 9, 10, 12, 140, 141, 142, 146, 148, 152] 1 (K9 p0 j8.1 y31 x1 y31 x7 q30.2 x7 x7 y31.2.2.2.2.2.1 q30.2 [(148, .d (.ptr q30.2 0)), (152, Z77 x32)]) (by kernel_rfl) <| OWk.D ?_
            exact c71
          have c451 : X 9 451 (sp 223 (K9 p0 j8.1 y31 x1 y31 x7 q30.2 x7 x7 y31.2.2.2.2.2.1 q30.2 [(147, .d (.ptr q30.2 0)), (154, gI r34)]) y31.2.2.2.2.2.2) := by
           subst hX
           refine OX.step (i0 := 2) (is := []) (by kernel_rfl) (by kernel_rfl) ⟨?_, trivial⟩
           ·refine OWk.sg 223 y31.2.2.2.2.2.2 [151] [0, 1, 5, 7, 9, 10, 12, 140, 141, 142, 146, 148, 154] 1 (K9 p0 j8.1 y31 x1 y31 x7 q30.2 x7 x7 y31.2.2.2.2.2.1 q30.2 [(148, .d (.ptr q30.2 0)), (154, gI r34)]) (by kernel_rfl) <| OWk.D ?_
            exact c455
          have c195 : X 10 195 (sp 223 (K9 p0 j8.1 y31 x1 y31 x7 q30.2 x7 x7 y31.2.2.2.2.2.1 q30.2 [(147, .d (.ptr q30.2 0)), (153, Z77 r34)]) y31.2.2.2.2.2.2) := by
           subst hX
           refine OX.step (i0 := 2) (is := [8]) (by kernel_rfl) (by kernel_rfl) ⟨?_, ?_, trivial⟩
           ·refine OWk.sg 223 y31.2.2.2.2.2.2 [151] [0, 1, 5, 7, 9, 10, 12, 140, 141, 142, 146, 148, 153] 1 (K9 p0 j8.1 y31 x1 y31 x7 q30.2 x7 x7 y31.2.2.2.2.2.1 q30.2 [(148, .d (.ptr q30.2 0)), (153, Z77 r34)]) (by kernel_rfl) <| OWk.D ?_
            exact c199
           ·refine OWk.sg 223 y31.2.2.2.2.2.2 [151] [0, 1, 5, 7, 9, 10, 12, 140, 141, 142, 146, 147, 154] 1 (K9 p0 j8.1 y31 x1 y31 x7 q30.2 x7 x7 y31.2.2.2.2.2.1 q30.2 [(147, .d (.ptr q30.2 0)), (154, gI r34)]) (by kernel_rfl) <| OWk.D ?_
            exact c451
          have c67 : X 11 67 (sp 223 (K9 p0 j8.1 y31 x1 y31 x7 q30.2 x7 x7 y31.2.2.2.2.2.1 q30.2 [(147, .d (.ptr q30.2 0)), (152, Z77 x32)]) y31.2.2.2.2.2.2) := by
           subst hX
           refine OX.step (i0 := 2) (is := [7]) (by kernel_rfl) (by kernel_rfl) ⟨?_, ?_, trivial⟩
           ·refine OWk.sg 223 y31.2.2.2.2.2.2 [151] [0, 1, 5, 7, 9, 10, 12, 140, 141, 142, 146, 148, 152] 1 (K9 p0 j8.1 y31 x1 y31 x7 q30.2 x7 x7 y31.2.2.2.2.2.1 q30.2 [(148, .d (.ptr q30.2 0)), (152, Z77 x32)]) (by kernel_rfl) <| OWk.D ?_
            exact c71
           ·refine OWk.C0 (some 153) (K9 p0 j8.1 y31 x1 y31 x7 q30.2 x7 x7 y31.2.2.2.2.2.1 q30.2 [(147, .d (.ptr q30.2 0)), (153, Z77 r34)]) (eA hr_7) <| OWk.D ?_
            exact c195
          have c3 : X 12 3 (sp 223 (K35 p0 j8.1 y31 x1 y31 x7 q30.2 x32 x7 x7 y31.2.2.2.2.2.1 q30.2 [(147, .d (.ptr q30.2 0))]) y31.2.2.2.2.2.2) := by
           subst hX
           refine OX.step (i0 := 2) (is := [6]) (by kernel_rfl) (by kernel_rfl) ⟨?_, ?_, trivial⟩
           ·refine OWk.sg 223 y31.2.2.2.2.2.2 [151] [0, 1, 5, 7, 9, 10, 12, 14, 140, 141, 142, 146, 148] 1 (K35 p0 j8.1 y31 x1 y31 x7 q30.2 x32 x7 x7 y31.2.2.2.2.2.1 q30.2 [(148, .d (.ptr q30.2 0))]) (by kernel_rfl) <| OWk.D ?_
            exact c7
           ·refine OWk.sg 223 y31.2.2.2.2.2.2 [151] [0, 1, 5, 7, 9, 10, 12, 140, 141, 142, 146, 147, 152] 1 (K9 p0 j8.1 y31 x1 y31 x7 q30.2 x7 x7 y31.2.2.2.2.2.1 q30.2 [(147, .d (.ptr q30.2 0)), (152, Z77 x32)]) (by kernel_rfl) <| OWk.D ?_
            exact c67
          refine OBk.sg 223 y31.2.2.2.2.2.2 [151] [0, 1, 5, 7, 9, 10, 12, 14, 140, 141, 142, 146] 1 (K35 p0 j8.1 y31 x1 y31 x7 q30.2 x32 x7 x7 y31.2.2.2.2.2.1 q30.2 []) (by kernel_rfl) (by kernel_rfl) <| OBk.sg 223 y31.2.2.2.2.2.2 [151] [0, 1, 5, 7, 9, 10, 12, 14, 140, 141, 142, 146, 147] 1 (K35 p0 j8.1 y31 x1 y31 x7 q30.2 x32 x7 x7 y31.2.2.2.2.2.1 q30.2 [(147, .d (.ptr q30.2 0))]) (by kernel_rfl) (by kernel_rfl) <| OBk.done (by kernel_rfl) ?_
          exact c3
         refine aH <| ad <| SW.au <| OWk.G 2 (K1 p0 j8.1 y31 x1 y31 x7 q30.2 [(140, Z3 x7), (141, Z8 x7), (142, B4 y31)]) <| OWk.D ?_
         cases h
         exact ⟨(y31.1, y31.2.1, y31.2.2.1, y31.2.2.2.1, y31.2.2.2.2.1, (IntKind.wrap .i64 (y31.2.2.2.2.2.1 + 1)), H36), rfl, by kernel_rfl⟩
        ·replace h := ao hc h
         refine SW.K (K1 p0 j8.1 y31 x1 y31 x7 q30.2 []) <| SW.exit <| aJ ?_
         cases h
         refine aJ ?_
         exact ⟨_, rfl, ⟨rfl, rfl⟩⟩
       ·rintro _ _ ⟨rfl, rfl⟩
        refine aT <| ad <| SW.seq <| SW.S <| OWk.G 2 (K3 p0 j8.1 [(5, AV v38), (7, vI x1), (9, AU v38), (10, Z8 x7), (12, .d (.ptr q30.2 0)), (161, dX v38)]) <| OWk.O (d := some 162) (K3 p0 j8.1 [(5, AV v38), (7, vI x1), (9, AU v38), (10, Z8 x7), (12, .d (.ptr q30.2 0)), (161, dX v38), (162, en v38)]) (BAt.len (enc := (D.int .i64)) (xs := v38.2.2.2.2.1) (by kernel_rfl)) <| OWk.G 1 (K3 p0 j8.1 [(5, AV v38), (7, vI x1), (9, AU v38), (10, Z8 x7), (12, .d (.ptr q30.2 0)), (161, dX v38), (162, en v38), (163, vI 0)]) <| OWk.E <| SW.block ?_
        obtain ⟨z56, hit, h⟩ := aa h
        refine SW.itH 223 [0, 1, 5, 7, 9, 10, 12, 161, 162, 163] (fun y39 => (K54 p0 j8.1 y39.1 y39.2.1 x1 y39.2.2.1 y39.2.2.2.1 y39.2.2.2.2.1 x7 q30.2 [(161, dX v38), (162, en v38), (163, vI y39.2.2.2.2.2.1)])) (fun y39 => y39.2.2.2.2.2.2) (fun b e s => ((∃ v57, b = (.inl v57) ∧ (e = .exit 2 ∧ s = (sp 223 [(12, .d (.ptr q30.2 0))] v57))) ∨ (∃ r58, b = (.inr r58) ∧ (e = .ret ∧ aA Try.prog Try.f29.results.toList r58.2 (.d (cP.enc r58.1)) .ret s)))) hit (by kernel_rfl) (fun y39 o h => ?_) ?_
        ·unfold ba at h
         refine SW.R 1 (K85 p0 j8.1 y39 x1 y39 x7 q30.2 v38 v38 y39.2.2.2.2.2.1 [(164, DG y39 v38)]) <| SW.seq ?_
         refine SW.B (decide (y39.2.2.2.2.2.1 < (v38.2.2.2.2.1.length : Int))) (fun hc => ?_) (fun hc => ?_)
         ·replace h := an hc h
          refine SW.skip <| ad <| SW.seq <| SW.block <| SW.S <| OWk.G 1 (K85 p0 j8.1 y39 x1 y39 x7 q30.2 v38 v38 y39.2.2.2.2.2.1 [(165, vI y39.2.2.2.2.2.1)]) ?_
          obtain ⟨x40, hx, h⟩ := aa h
          refine OWk.O (d := some 166) (s := aO none (Go.Sh.D.cells ((D.int .i64) x40))) (K85 p0 j8.1 y39 x1 y39 x7 q30.2 v38 v38 y39.2.2.2.2.2.1 [(165, vI y39.2.2.2.2.2.1), (166, .d (.aR [.int .i64 x40]))]) (BAt.index (n := 1) hx (by kernel_rfl)) <| OWk.G 3 (K1 p0 j8.1 y39 x1 y39 x7 q30.2 [(15, vI y39.2.2.2.2.2.1), (16, vI x40), (161, dX v38), (162, en v38), (163, vI y39.2.2.2.2.2.1)]) <| OWk.E <| SW.seq ?_
          obtain ⟨jp42, hjjp42, h⟩ := bt h
          refine SW.jn 223 y39.2.2.2.2.2.2 [0, 1, 5, 7, 9, 10, 12, 15, 161, 162, 163, 182] (fun (j41 : Bool) => (K1 p0 j8.1 y39 x1 y39 x7 q30.2 [(15, vI y39.2.2.2.2.2.1), (161, dX v38), (162, en v38), (163, vI y39.2.2.2.2.2.1), (182, vB j41)])) (fun v => jp42 v = some o) (fun j41 h => ?_) ?_
          ·rw [hjjp42] at h
           refine SW.B j41 (fun hc => ?_) (fun hc => ?_)
           ·replace h := an hc h
            refine SW.S <| OWk.G 4 [(184, vI x1), (186, .d (.ptr p0 4))] ?_
            obtain ⟨H45, hx, h⟩ := aa h
            refine OWk.hst 223 H45 [] [] hx (by kernel_rfl) (by kernel_rfl) <| OWk.E <| SW.R 1 [(6, .d (.aL))] <| SW.ret <| af <| ax <| af ?_
            cases h
            refine af ?_
            exact ⟨_, rfl, .inr (⟨(none, H45), rfl, rfl, aA.ret [] (by kernel_rfl) rfl⟩)⟩
           ·replace h := ao hc h
            refine SW.skip <| ad <| SW.R 1 (K1 p0 j8.1 y39 x1 y39 x7 q30.2 [(15, vI y39.2.2.2.2.2.1), (17, sk y39), (161, dX v38), (162, en v38), (163, vI y39.2.2.2.2.2.1)]) ?_
            obtain ⟨jp47, hjjp47, h⟩ := bt h
            refine SW.jn 223 y39.2.2.2.2.2.2 [0, 1, 5, 7, 9, 10, 12, 15, 17, 161, 162, 163] (fun (j46 : (Option Entry)) => (K1 p0 j8.1 y39 x1 y39 x7 q30.2 [(15, vI y39.2.2.2.2.2.1), (17, .box [.d (aP ab j46), .d (aP ab y39.2.1)]), (161, dX v38), (162, en v38), (163, vI y39.2.2.2.2.2.1)])) (fun v => jp47 v = some o) (fun j46 h => ?_) ?_
            ·rw [hjjp47] at h
             obtain ⟨jp50, hjjp50, h⟩ := bt h
             refine SW.jn 223 y39.2.2.2.2.2.2 [0, 1, 5, 7, 9, 10, 12, 17, 161, 162, 163] (fun (j49 : (Option Entry)) => (K1 p0 j8.1 y39 x1 y39 x7 q30.2 [(17, .box [.d (aP ab j46), .d (aP ab j49)]), (161, dX v38), (162, en v38), (163, vI y39.2.2.2.2.2.1)])) (fun v => jp50 v = some o) (fun j49 h => ?_) ?_
             ·rw [hjjp50] at h
              refine SW.S <| OWk.G 4 (K85 p0 j8.1 y39 x1 y39 x7 q30.2 v38 v38 y39.2.2.2.2.2.1 [(204, .d (.ptr p0 0)), (206, DH j8), (207, DB j46 j49)]) ?_
              obtain ⟨r52, hr, h⟩ := aa h
              refine OWk.CH (some 208) (K85 p0 j8.1 y39 x1 y39 x7 q30.2 v38 v38 y39.2.2.2.2.2.1 [(208, .d (cP.enc r52.1))]) (ih hr) <| OWk.G 1 (K1 p0 j8.1 y39 x1 y39 x7 q30.2 [(18, .d (cP.enc r52.1)), (161, dX v38), (162, en v38), (163, vI y39.2.2.2.2.2.1)]) <| OWk.E <| SW.seq <| SW.S <| OWk.G 1 (K1 p0 j8.1 y39 x1 y39 x7 q30.2 [(18, .d (cP.enc r52.1)), (161, dX v38), (162, en v38), (163, vI y39.2.2.2.2.2.1), (209, .d (cP.enc r52.1))]) ?_
              refine OWk.jG r52.1 (fun p => (sp 223 (K1 p0 j8.1 y39 x1 y39 x7 q30.2 [(18, .d (cP.enc p)), (161, dX v38), (162, en v38), (163, vI y39.2.2.2.2.2.1), (209, .d (cP.enc p))]) r52.2)) (by kernel_rfl) (fun hp => ?_) (fun i53 hp => ?_)
              ·rw [hp] at h
               replace h := iq h
               refine OWk.G 1 (K1 p0 j8.1 y39 x1 y39 x7 q30.2 [(18, .d (.aL)), (161, dX v38), (162, en v38), (163, vI y39.2.2.2.2.2.1), (210, vB true)]) <| OWk.E <| SW.gH (by kernel_rfl) <| SW.R 1 [(6, .d (.aL))] <| SW.ret <| af <| ax <| af ?_
               cases h
               refine af ?_
               exact ⟨_, rfl, .inr (⟨(none, r52.2), rfl, rfl, aA.ret [] (by kernel_rfl) rfl⟩)⟩
              ·rw [hp] at h
               replace h := im h
               refine OWk.G 1 (K1 p0 j8.1 y39 x1 y39 x7 q30.2 [(18, .d (.ptr i53 0)), (161, dX v38), (162, en v38), (163, vI y39.2.2.2.2.2.1), (210, vB false)]) <| OWk.E <| SW.fh (by kernel_rfl) <| SW.skip <| ad <| SW.au <| OWk.sg 223 r52.2 [215] [0, 1, 5, 7, 9, 10, 12, 18, 161, 162, 163, 211, 214] 4 (K1 p0 j8.1 y39 x1 y39 x7 q30.2 [(18, .d (.ptr i53 0)), (161, dX v38), (162, en v38), (163, vI y39.2.2.2.2.2.1), (211, .d (.ptr q30.2 0)), (214, .d (.ptr q30.2 1))]) (by kernel_rfl) ?_
               obtain ⟨q54, hq, h⟩ := aa h
               refine OWk.tkH (c := cP) (n' := 1) (d := 215) (xs := q54.1) 223 [0, 1, 5, 7, 9, 10, 12, 18, 161, 162, 163, 211, 215] (K1 p0 j8.1 y39 x1 y39 x7 q30.2 [(18, .d (.ptr i53 0)), (161, dX v38), (162, en v38), (163, vI y39.2.2.2.2.2.1), (211, .d (.ptr q30.2 0)), (215, .own 1 (List.map cP.enc q54.1))]) hq (by kernel_rfl) (by kernel_rfl) <| OWk.sg 223 q54.2 [215] [0, 1, 5, 7, 9, 10, 12, 161, 162, 163, 211, 215, 217] 2 (K85 p0 j8.1 y39 x1 y39 x7 q30.2 v38 v38 y39.2.2.2.2.2.1 [(211, .d (.ptr q30.2 0)), (215, yF q54), (217, Ck i53)]) (by kernel_rfl) ?_
               obtain ⟨hk, h⟩ := bH h
               refine OWk.app 223 q54.2 (s := 215) (d := 218) (w := 1) [0, 1, 5, 7, 9, 10, 12, 161, 162, 163, 211, 218] (zs := List.map cP.enc (q54.1 ++ [(some i53)])) (K85 p0 j8.1 y39 x1 y39 x7 q30.2 v38 v38 y39.2.2.2.2.2.1 [(211, .d (.ptr q30.2 0)), (218, B3 q54 i53)]) (ys := (List.map cP.enc [(some i53)])) (by kernel_rfl) (aY) (bY hk) (by kernel_rfl) <| OWk.sg 223 q54.2 [215] [0, 1, 5, 7, 9, 10, 12, 161, 162, 163, 218, 220] 2 (K85 p0 j8.1 y39 x1 y39 x7 q30.2 v38 v38 y39.2.2.2.2.2.1 [(218, B3 q54 i53), (220, .d (.ptr q30.2 1))]) (by kernel_rfl) ?_
               obtain ⟨H55, hx, h⟩ := aa h
               refine OWk.gvH (c := cP) (n' := 1) (s := 218) (xs := (q54.1 ++ [(some i53)])) 223 [0, 1, 5, 7, 9, 10, 12, 161, 162, 163] (K85 p0 j8.1 y39 x1 y39 x7 q30.2 v38 v38 y39.2.2.2.2.2.1 []) hx (by kernel_rfl) (by kernel_rfl) <| OWk.D <| aH <| ad <| SW.au <| OWk.G 2 (K1 p0 j8.1 y39 x1 y39 x7 q30.2 [(161, dX v38), (162, en v38), (163, B4 y39)]) <| OWk.D ?_
               cases h
               exact ⟨(y39.1, y39.2.1, y39.2.2.1, y39.2.2.2.1, y39.2.2.2.2.1, (IntKind.wrap .i64 (y39.2.2.2.2.2.1 + 1)), H55), rfl, by kernel_rfl⟩
             ·refine SW.R 1 (K1 p0 j8.1 y39 x1 y39 x7 q30.2 [(15, vI y39.2.2.2.2.2.1), (17, AT j46 y39), (161, dX v38), (162, en v38), (163, vI y39.2.2.2.2.2.1), (198, B5 y39 x7)]) ?_
              refine SW.B (decide (y39.2.2.2.2.2.1 < (x7.Entries.length : Int))) (fun hc => ?_) (fun hc => ?_)
              ·replace h := an hc h
               refine SW.au <| OWk.G 3 (K1 p0 j8.1 y39 x1 y39 x7 q30.2 [(17, AT j46 y39), (161, dX v38), (162, en v38), (163, vI y39.2.2.2.2.2.1), (200, B2 y39), (201, vI y39.2.2.2.2.2.1)]) ?_
               obtain ⟨x51, hx, h⟩ := aa h
               refine OWk.O (d := some 202) (s := aO none (Go.Sh.D.cells (ab x51))) (K1 p0 j8.1 y39 x1 y39 x7 q30.2 [(17, AT j46 y39), (161, dX v38), (162, en v38), (163, vI y39.2.2.2.2.2.1), (202, .d (.aR [.list 3 (List.map ag x51.Row), .int .i64 x51.Key, .int .i64 x51.Number]))]) (BAt.index (n := 3) hx (by kernel_rfl)) <| OWk.G 2 (K1 p0 j8.1 y39 x1 y39 x7 q30.2 [(17, DC j46 x51), (161, dX v38), (162, en v38), (163, vI y39.2.2.2.2.2.1)]) <| OWk.D ?_
               exact ⟨(some x51), [], by kernel_rfl, h⟩
              ·replace h := ao hc h
               refine SW.skip ?_
               exact ⟨y39.2.1, [], by kernel_rfl, h⟩
            ·refine SW.R 1 (K1 p0 j8.1 y39 x1 y39 x7 q30.2 [(15, vI y39.2.2.2.2.2.1), (17, sk y39), (161, dX v38), (162, en v38), (163, vI y39.2.2.2.2.2.1), (189, DF y39)]) ?_
             refine SW.B (decide (y39.2.2.2.2.2.1 > 0)) (fun hc => ?_) (fun hc => ?_)
             ·replace h := an hc h
              refine SW.au <| OWk.G 4 (K1 p0 j8.1 y39 x1 y39 x7 q30.2 [(15, vI y39.2.2.2.2.2.1), (17, sk y39), (161, dX v38), (162, en v38), (163, vI y39.2.2.2.2.2.1), (191, B2 y39), (193, DE y39)]) ?_
              obtain ⟨x48, hx, h⟩ := aa h
              refine OWk.O (d := some 194) (s := aO none (Go.Sh.D.cells (ab x48))) (K1 p0 j8.1 y39 x1 y39 x7 q30.2 [(15, vI y39.2.2.2.2.2.1), (17, sk y39), (161, dX v38), (162, en v38), (163, vI y39.2.2.2.2.2.1), (194, .d (.aR [.list 3 (List.map ag x48.Row), .int .i64 x48.Key, .int .i64 x48.Number]))]) (BAt.index (n := 3) hx (by kernel_rfl)) <| OWk.G 2 (K1 p0 j8.1 y39 x1 y39 x7 q30.2 [(15, vI y39.2.2.2.2.2.1), (17, DD x48 y39), (161, dX v38), (162, en v38), (163, vI y39.2.2.2.2.2.1)]) <| OWk.D ?_
              exact ⟨(some x48), [], by kernel_rfl, h⟩
             ·replace h := ao hc h
              refine SW.skip ?_
              exact ⟨y39.1, [], by kernel_rfl, h⟩
          ·refine SW.au <| OWk.G 4 (K1 p0 j8.1 y39 x1 y39 x7 q30.2 [(15, vI y39.2.2.2.2.2.1), (16, vI x40), (161, dX v38), (162, en v38), (163, vI y39.2.2.2.2.2.1), (168, vI x40), (171, .d (.ptr p0 2))]) ?_
           obtain ⟨x43, hx, h⟩ := aa h
           refine OWk.O (d := some 172) (s := vI x43) (K1 p0 j8.1 y39 x1 y39 x7 q30.2 [(15, vI y39.2.2.2.2.2.1), (16, vI x40), (161, dX v38), (162, en v38), (163, vI y39.2.2.2.2.2.1), (168, vI x40), (172, vI x43)]) (BAt.ldH (c := (cI .i64).cell) hx (by kernel_rfl)) <| OWk.G 2 (K1 p0 j8.1 y39 x1 y39 x7 q30.2 [(15, vI y39.2.2.2.2.2.1), (16, vI x40), (161, dX v38), (162, en v38), (163, vI y39.2.2.2.2.2.1), (174, vB (x40 != x43))]) ?_
           refine OWk.case (x40 != x43) (fun b => (sp 223 (K1 p0 j8.1 y39 x1 y39 x7 q30.2 [(15, vI y39.2.2.2.2.2.1), (16, vI x40), (161, dX v38), (162, en v38), (163, vI y39.2.2.2.2.2.1), (174, vB b)]) y39.2.2.2.2.2.2)) (by kernel_rfl) (fun hc => ?_) (fun hc => ?_)
           ·replace h := an hc h
            refine OWk.G 8 (K1 p0 j8.1 y39 x1 y39 x7 q30.2 [(15, vI y39.2.2.2.2.2.1), (161, dX v38), (162, en v38), (163, vI y39.2.2.2.2.2.1), (182, vB true)]) <| OWk.D ?_
            exact ⟨true, [], by kernel_rfl, h⟩
           ·replace h := ao hc h
            refine OWk.G 4 (K1 p0 j8.1 y39 x1 y39 x7 q30.2 [(15, vI y39.2.2.2.2.2.1), (161, dX v38), (162, en v38), (163, vI y39.2.2.2.2.2.1), (174, vB false), (175, vI x40), (178, .d (.ptr p0 1))]) ?_
            obtain ⟨x44, hx, h⟩ := aa h
            refine OWk.O (d := some 179) (s := .bf (.ai p0 1) 3 (List.map aI x44)) (K1 p0 j8.1 y39 x1 y39 x7 q30.2 [(15, vI y39.2.2.2.2.2.1), (161, dX v38), (162, en v38), (163, vI y39.2.2.2.2.2.1), (174, vB false), (175, vI x40), (179, zJ p0 x44)]) (BAt.ldL (c := jI) hx (by kernel_rfl)) <| OWk.O (d := some 180) (K1 p0 j8.1 y39 x1 y39 x7 q30.2 [(15, vI y39.2.2.2.2.2.1), (161, dX v38), (162, en v38), (163, vI y39.2.2.2.2.2.1), (174, vB false), (175, vI x40), (180, vI (x44.length : Int))]) (BAt.len (enc := aI) (xs := x44) (by kernel_rfl)) <| OWk.G 2 (K1 p0 j8.1 y39 x1 y39 x7 q30.2 [(15, vI y39.2.2.2.2.2.1), (161, dX v38), (162, en v38), (163, vI y39.2.2.2.2.2.1), (182, A0 x40 x44)]) <| OWk.D ?_
            exact ⟨(decide (x40 ≥ (x44.length : Int))), [], by kernel_rfl, h⟩
         ·replace h := ao hc h
          refine SW.K [(12, .d (.ptr q30.2 0))] <| SW.exit <| aJ ?_
          cases h
          refine aJ ?_
          exact ⟨_, rfl, .inl ⟨y39.2.2.2.2.2.2, rfl, rfl, rfl⟩⟩
        ·rintro _ _ (⟨v57, rfl, rfl, rfl⟩ | ⟨r58, rfl, rfl, hE⟩)
         ·replace h := dO h
          refine aT <| ad <| SW.R 1 [(6, .d (.ptr q30.2 0))] <| SW.ret ?_
          cases h
          exact aA.ret [] (by kernel_rfl) rfl
         ·replace h := dN h
          refine ax <| af ?_
          cases h
          exact hE
      ·refine SW.seq <| SW.cw (by kernel_rfl) (by kernel_rfl) <| OQk.G 3 (K46 p0 j8.1 p2 x1 x7 x7 [(95, DN x7)]) ?_
       refine OQk.case (decide ((x7.Entries.length : Int) > 0)) (fun b => (sp 223 (K46 p0 j8.1 p2 x1 x7 x7 [(95, vB b)]) j12.2)) (by kernel_rfl) (fun hc => ?_) (fun hc => ?_)
       ·replace h := an hc h
        refine OQk.G 2 (K46 p0 j8.1 p2 x1 x7 x7 [(95, vB true), (97, DM p2)]) ?_
        refine OQk.jG p2.low (fun p => (sp 223 (K3 p0 j8.1 [(5, .box [.d (aP ab p), .d (aP ab p2.high)]), (7, vI x1), (9, eG x7), (10, Z8 x7), (95, vB true), (97, .d (aP ab p))]) j12.2)) (by kernel_rfl) (fun hp_x18 => ?_) (fun x18 hp_x18 => ?_)
        ·rw [hp_x18] at h
         replace h := iq h
         refine OQk.G 17 (K3 p0 j8.1 [(5, DL p2), (7, vI x1), (9, eG x7), (10, Z8 x7), (95, vB true), (112, vB false), (114, Ca p2)]) ?_
         refine OQk.jG p2.high (fun p => (sp 223 (K3 p0 j8.1 [(5, .box [.d (.aL), .d (aP ab p)]), (7, vI x1), (9, eG x7), (10, Z8 x7), (95, vB true), (112, vB false), (114, .d (aP ab p))]) j12.2)) (by kernel_rfl) (fun hp_x19 => ?_) (fun x19 hp_x19 => ?_)
         ·rw [hp_x19] at h
          replace h := iq h
          refine OQk.G 18 (K3 p0 j8.1 [(5, DK), (7, vI x1), (9, eG x7), (10, Z8 x7), (132, vB false)]) <| OQk.done (by kernel_rfl) <| ad <| SW.fh (by kernel_rfl) <| SW.skip ?_
          exact ⟨(none, none), [], by kernel_rfl, h⟩
         ·rw [hp_x19] at h
          replace h := im h
          refine OQk.G 7 (K74 p0 j8.1 x19 x1 x7 x7 [(117, .d (.ptr p0 0)), (119, Z3 x7), (121, B8 x7)]) ?_
          obtain ⟨x20, hx, h⟩ := aa h
          refine OQk.on 223 j12.2 (d := some 122) (s := aO none (Go.Sh.D.cells (ab x20))) [0, 1, 5, 7, 9, 10, 95, 112, 116, 117, 122] (K74 p0 j8.1 x19 x1 x7 x7 [(117, .d (.ptr p0 0)), (122, .d (.aR [.list 3 (List.map ag x20.Row), .int .i64 x20.Key, .int .i64 x20.Number]))]) (BAt.index (n := 3) hx (by kernel_rfl)) (by kernel_rfl) <| OQk.G 5 (K74 p0 j8.1 x19 x1 x7 x7 [(117, .d (.ptr p0 0)), (123, Z77 x20), (127, Z77 x19)]) ?_
          obtain ⟨r21, hr, h⟩ := aa h
          refine OQk.CR (ls := []) (some 128) (K74 p0 j8.1 x19 x1 x7 x7 [(128, vB r21)]) (fu hr) <| OQk.G 4 (K3 p0 j8.1 [(5, B9 x19), (7, vI x1), (9, eG x7), (10, Z8 x7), (132, vB (!r21))]) <| OQk.done (by kernel_rfl) <| ad ?_
          refine SW.B (!r21) (fun hc => ?_) (fun hc => ?_)
          ·replace h := an hc h
           refine SW.S <| OWk.G 4 [(134, vI x1), (136, .d (.ptr p0 4))] ?_
           obtain ⟨H22, hx, h⟩ := aa h
           refine OWk.hst 223 H22 [] [] hx (by kernel_rfl) (by kernel_rfl) <| OWk.E <| SW.R 1 [(6, .d (.aL))] <| SW.ret <| af ?_
           cases h
           exact aA.ret [] (by kernel_rfl) rfl
          ·replace h := ao hc h
           refine SW.skip ?_
           exact ⟨(none, (some x19)), [], by kernel_rfl, h⟩
        ·rw [hp_x18] at h
         replace h := im h
         refine OQk.G 9 (K59 p0 j8.1 x18 p2 x1 x7 x7 [(99, vB true), (100, .d (.ptr p0 0)), (104, Z77 x18), (106, Z3 x7)]) ?_
         obtain ⟨x23, hx, h⟩ := aa h
         refine OQk.on 223 j12.2 (d := some 107) (s := aO none (Go.Sh.D.cells (ab x23))) [0, 1, 5, 7, 9, 10, 95, 99, 100, 104, 107] (K59 p0 j8.1 x18 p2 x1 x7 x7 [(99, vB true), (100, .d (.ptr p0 0)), (104, Z77 x18), (107, .d (.aR [.list 3 (List.map ag x23.Row), .int .i64 x23.Key, .int .i64 x23.Number]))]) (BAt.index (n := 3) hx (by kernel_rfl)) (by kernel_rfl) <| OQk.G 1 (K59 p0 j8.1 x18 p2 x1 x7 x7 [(99, vB true), (100, .d (.ptr p0 0)), (104, Z77 x18), (108, Z77 x23)]) ?_
         obtain ⟨r24, hr, h⟩ := aa h
         refine OQk.CR (ls := []) (some 109) (K59 p0 j8.1 x18 p2 x1 x7 x7 [(99, vB true), (109, vB r24)]) (fu hr) <| OQk.G 3 (K59 p0 j8.1 x18 p2 x1 x7 x7 [(112, vB (!r24))]) ?_
         refine OQk.case (!r24) (fun b => (sp 223 (K59 p0 j8.1 x18 p2 x1 x7 x7 [(112, vB b)]) j12.2)) (by kernel_rfl) (fun hc => ?_) (fun hc => ?_)
         ·replace h := an hc h
          refine OQk.G 20 (K3 p0 j8.1 [(5, B7 x18 p2), (7, vI x1), (9, eG x7), (10, Z8 x7), (132, vB true)]) <| OQk.done (by kernel_rfl) <| ad <| SW.gH (by kernel_rfl) <| SW.S <| OWk.G 4 [(134, vI x1), (136, .d (.ptr p0 4))] ?_
          obtain ⟨H25, hx, h⟩ := aa h
          refine OWk.hst 223 H25 [] [] hx (by kernel_rfl) (by kernel_rfl) <| OWk.E <| SW.R 1 [(6, .d (.aL))] <| SW.ret <| af ?_
          cases h
          exact aA.ret [] (by kernel_rfl) rfl
         ·replace h := ao hc h
          refine OQk.G 2 (K59 p0 j8.1 x18 p2 x1 x7 x7 [(112, vB false), (114, Ca p2)]) ?_
          refine OQk.jG p2.high (fun p => (sp 223 (K3 p0 j8.1 [(5, .box [.d (.aR [.list 3 (List.map ag x18.Row), .int .i64 x18.Key, .int .i64 x18.Number]), .d (aP ab p)]), (7, vI x1), (9, eG x7), (10, Z8 x7), (95, vB true), (112, vB false), (114, .d (aP ab p))]) j12.2)) (by kernel_rfl) (fun hp_x26 => ?_) (fun x26 hp_x26 => ?_)
          ·rw [hp_x26] at h
           replace h := iq h
           refine OQk.G 18 (K3 p0 j8.1 [(5, DJ x18), (7, vI x1), (9, eG x7), (10, Z8 x7), (132, vB false)]) <| OQk.done (by kernel_rfl) <| ad <| SW.fh (by kernel_rfl) <| SW.skip ?_
           exact ⟨((some x18), none), [], by kernel_rfl, h⟩
          ·rw [hp_x26] at h
           replace h := im h
           refine OQk.G 7 (K76 p0 j8.1 x18 x26 x1 x7 x7 [(117, .d (.ptr p0 0)), (119, Z3 x7), (121, B8 x7)]) ?_
           obtain ⟨x27, hx, h⟩ := aa h
           refine OQk.on 223 j12.2 (d := some 122) (s := aO none (Go.Sh.D.cells (ab x27))) [0, 1, 5, 7, 9, 10, 95, 112, 116, 117, 122] (K76 p0 j8.1 x18 x26 x1 x7 x7 [(117, .d (.ptr p0 0)), (122, .d (.aR [.list 3 (List.map ag x27.Row), .int .i64 x27.Key, .int .i64 x27.Number]))]) (BAt.index (n := 3) hx (by kernel_rfl)) (by kernel_rfl) <| OQk.G 5 (K76 p0 j8.1 x18 x26 x1 x7 x7 [(117, .d (.ptr p0 0)), (123, Z77 x27), (127, Z77 x26)]) ?_
           obtain ⟨r28, hr, h⟩ := aa h
           refine OQk.CR (ls := []) (some 128) (K76 p0 j8.1 x18 x26 x1 x7 x7 [(128, vB r28)]) (fu hr) <| OQk.G 4 (K3 p0 j8.1 [(5, B6 x18 x26), (7, vI x1), (9, eG x7), (10, Z8 x7), (132, vB (!r28))]) <| OQk.done (by kernel_rfl) <| ad ?_
           refine SW.B (!r28) (fun hc => ?_) (fun hc => ?_)
           ·replace h := an hc h
            refine SW.S <| OWk.G 4 [(134, vI x1), (136, .d (.ptr p0 4))] ?_
            obtain ⟨H29, hx, h⟩ := aa h
            refine OWk.hst 223 H29 [] [] hx (by kernel_rfl) (by kernel_rfl) <| OWk.E <| SW.R 1 [(6, .d (.aL))] <| SW.ret <| af ?_
            cases h
            exact aA.ret [] (by kernel_rfl) rfl
           ·replace h := ao hc h
            refine SW.skip ?_
            exact ⟨((some x18), (some x26)), [], by kernel_rfl, h⟩
       ·replace h := ao hc h
        refine OQk.G 37 (K46 p0 j8.1 p2 x1 x7 x7 [(132, vB false)]) <| OQk.done (by kernel_rfl) <| ad <| SW.fh (by kernel_rfl) <| SW.skip ?_
        exact ⟨(p2.low, p2.high), [], by kernel_rfl, h⟩
    ·refine SW.au <| OWk.G 4 (K46 p0 j8.1 p2 x1 x7 x7 [(11, vI j10), (61, .d (.ptr p0 0)), (62, Ce x7), (63, vB j8.2), (64, AZ p2)]) ?_
     obtain ⟨r14, hr, h⟩ := aa h
     refine OWk.CH (some 65) (K46 p0 j8.1 p2 x1 x7 x7 [(11, vI j10), (65, vB r14.1)]) (lU hr) <| OWk.G 2 (K46 p0 j8.1 p2 x1 x7 x7 [(11, vI j10), (67, vB (!r14.1))]) <| OWk.M 4 (!r14.1) (fun b => (K46 p0 j8.1 p2 x1 x7 x7 [(11, vI j10), (67, vB b)])) (fun b => (K46 p0 j8.1 p2 x1 x7 x7 [(11, vI j10), (71, vB (b || (decide (x7.Level < 0))))])) <| OWk.G 1 (K46 p0 j8.1 p2 x1 x7 x7 [(11, vI j10), (72, DQ r14 x7)]) <| OWk.M 5 ((!r14.1) || (decide (x7.Level < 0))) (fun b => (K46 p0 j8.1 p2 x1 x7 x7 [(11, vI j10), (72, vB b)])) (fun b => (K46 p0 j8.1 p2 x1 x7 x7 [(11, vI j10), (77, vB (b || (x7.Level != j8.1)))])) <| OWk.G 1 (K46 p0 j8.1 p2 x1 x7 x7 [(11, vI j10), (78, DP r14 x7 j8)]) ?_
     refine OWk.case (((!r14.1) || (decide (x7.Level < 0))) || (x7.Level != j8.1)) (fun b => (sp 223 (K46 p0 j8.1 p2 x1 x7 x7 [(11, vI j10), (78, vB b)]) r14.2)) (by kernel_rfl) (fun hc => ?_) (fun hc => ?_)
     ·replace h := an hc h
      refine OWk.G 10 (K46 p0 j8.1 p2 x1 x7 x7 [(88, vB true)]) <| OWk.D ?_
      exact ⟨(true, r14.2), [], by kernel_rfl, h⟩
     ·replace h := ao hc h
      refine OWk.G 2 (K46 p0 j8.1 p2 x1 x7 x7 [(11, vI j10), (78, vB false), (80, Z5 x7)]) <| OWk.O (d := some 81) (K46 p0 j8.1 p2 x1 x7 x7 [(11, vI j10), (78, vB false), (81, Z7 x7)]) (BAt.len (enc := (D.int .i64)) (xs := x7.Kids) (by kernel_rfl)) <| OWk.G 4 (K46 p0 j8.1 p2 x1 x7 x7 [(11, vI j10), (85, DO x7 j10)]) <| OWk.M 3 ((x7.Kids.length : Int) != j10) (fun b => (K46 p0 j8.1 p2 x1 x7 x7 [(11, vI j10), (85, vB b)])) (fun b => (K46 p0 j8.1 p2 x1 x7 x7 [(88, vB (b || (j10 == 1)))])) <| OWk.D ?_
      exact ⟨((((x7.Kids.length : Int) != j10) || (j10 == 1)), r14.2), [], by kernel_rfl, h⟩
   ·refine SW.R 1 (K17 p0 j8.1 p2 x1 [(8, vB j8.2), (9, eG x7), (10, Z8 x7), (11, vI 0), (58, DW x7)]) ?_
    refine SW.B (decide (x7.Level > 0)) (fun hc => ?_) (fun hc => ?_)
    ·replace h := an hc h
     refine SW.au <| OWk.G 3 (K17 p0 j8.1 p2 x1 [(8, vB j8.2), (9, eG x7), (10, Z8 x7), (11, DV x7)]) <| OWk.D ?_
     exact ⟨(IntKind.wrap .i64 ((x7.Entries.length : Int) + 1)), [], by kernel_rfl, h⟩
    ·replace h := ao hc h
     refine SW.skip ?_
     exact ⟨0, [], by kernel_rfl, h⟩
  ·refine SW.R 1 (K17 p0 p1 p2 x1 [(8, vB (x1 == 0)), (9, eG x7), (50, vB (x1 == 0))]) ?_
   refine SW.case (x1 == 0) (fun b => (sp 223 (K17 p0 p1 p2 x1 [(8, vB b), (9, eG x7), (50, vB b)]) H5)) (by kernel_rfl) (fun hc => ?_) (fun hc => ?_)
   ·replace h := an hc h
    refine SW.gH (by kernel_rfl) <| SW.au <| OWk.G 3 (K17 p0 x7.Level p2 x1 [(8, vB true), (9, eG x7)]) <| OWk.D ?_
    exact ⟨(x7.Level, true), [], by kernel_rfl, h⟩
   ·replace h := ao hc h
    refine SW.fh (by kernel_rfl) <| SW.skip ?_
    exact ⟨(p1, false), [], by kernel_rfl, h⟩
theorem mQ {fuel : Nat} : ∀ {p0 : Nat} {p1 : Int} {p2 : T82} {H : Hp} {r : ((Option Nat)) × Hp}, bR fuel p0 p1 p2 H = some r → SC Try.prog false 29 [.d (.ptr p0 0), vI p1, .d (rZ p2)] H (.d (cP.enc r.1)) r.2 := by
 induction fuel with
 | zero => intros; rename_i h; exact nomatch (show (none : Option (((Option Nat)) × Hp)) = some _ from h)
 | succ fuel ih => exact fun h => lx ih h
def iO (fuel : Nat) (p0 : ah) (p1 : Int) (p2 : Int) (p3 : (List Node)) (H : Hp) : Option (((Option Nat) × Int × Int) × Hp) :=
 (qD fuel p0 p1 H).bind fun r1 =>
 bif (r1.1.2 != 0) then
  some ((none, 0, r1.1.2), r1.2)
 else
  bif (decide (p2 < 0)) then
   some ((none, 0, 7), r1.2)
  else
   r1.1.1.bind fun i2 =>
   (dA (cI .i64) r1.2 i2 5 p2).bind fun H3 =>
   (mw H3 (.map [])).bind fun q4 =>
   r1.1.1.bind fun i5 =>
   (mw q4.1 (.cells [.d (.ptr i5 0), .d (.list 3 (List.map aI p3)), .d (.int .i64 0), .d (.map q4.2), .d (.int .i64 0)])).bind fun q6 =>
   (bR fuel q6.2 0 (⟨none, none⟩ : T82) q6.1).bind fun r7 =>
   aX (fun (j8 : (Option Nat) × Bool) =>
    bif j8.2 then
     (bg (cI .i64).cell r7.2 q6.2 4).bind fun x11 =>
     some ((none, x11, 12), r7.2)
    else
     (bg (cI .i64).cell r7.2 q6.2 2).bind fun x12 =>
     bif (decide (x12 < (p3.length : Int))) then
      (bg (cI .i64).cell r7.2 q6.2 2).bind fun x13 =>
      some ((none, x13, 12), r7.2)
     else
      (bg cM.cell r7.2 q6.2 3).bind fun x14 =>
      (rU (kI .i64) cB r7.2 x14).bind fun q15 =>
      bif (decide (q15 > 500)) then
       some ((none, 0, 4), r7.2)
      else
       (bg cM.cell r7.2 q6.2 3).bind fun x16 =>
       (rU (kI .i64) cB r7.2 x16).bind fun q17 =>
       (dA cP r7.2 i5 4 j8.1).bind fun H18 =>
       (dA (cI .i64) H18 i5 6 q17).bind fun H19 =>
       (dn fuel p0.aq).bind fun r20 =>
       (dB 1 (cI .i64) H19 i5 0 r20).bind fun H21 =>
       some (((some i5), (-1), 0), H21)) fun jp9 =>
   (Option.elim r7.1
    (jp9 (none, true))
   (fun i10 =>
    jp9 ((some i10), false)))
def B1 (x0 : Int) (x1 : (List Node)) : SV := vB (decide (x0 < (x1.length : Int)))
def K8 := fun a0 a1 a2 a3 (t : SL) => ((1, vI a0) :: (2, vI a1) :: (3, Z0 a2) :: (4, Z1 a3) :: t : SL)
def K36 := fun a0 a1 a2 a3 (t : SL) => ((3, Z0 a0) :: (4, Z1 a1) :: (11, .d (.ptr a2 0)) :: (13, .d (.ptr a3 0)) :: t : SL)
def K47 := fun a0 a1 a2 a3 (t : SL) => ((4, Z1 a0) :: (11, .d (.ptr a1 0)) :: (13, .d (.ptr a2 0)) :: (14, .d (cP.enc a3)) :: t : SL)
def K75 := fun a0 (t : SL) => ((8, .d (.aL)) :: (9, vI a0) :: t : SL)
def K82 := fun a0 a1 a2 (t : SL) => ((3, Z0 a0) :: (4, Z1 a1) :: (11, .d (cP.enc a2)) :: t : SL)
def K96 := fun a0 a1 a2 a3 a4 (t : SL) => ((4, Z1 a0) :: (11, .d (.ptr a1 0)) :: (64, .d (.ptr a2 0)) :: (65, .d (.ptr a3 0)) :: (66, .d (cP.enc a4)) :: t : SL)
theorem qE {fuel : Nat} {p0 : ah} {p1 : Int} {p2 : Int} {p3 : (List Node)} {H : Hp} {r : ((Option Nat) × Int × Int) × Hp} (h : iO fuel p0 p1 p2 p3 H = some r) : SC Try.prog false 14 [.d (bo p0), vI p1, vI p2, .d (.list 3 (List.map aI p3))] H (.tup [.d (cP.enc r.1.1), vI r.1.2.1, vI r.1.2.2]) r.2 := by
 refine SC.ga Try.func14 rfl ?_
 unfold iO at h
 refine SW.kp 84 H [0, 1, 2, 3] [(0, Z23 p0), (1, vI p1), (2, vI p2), (3, Z0 p3)] (by kernel_rfl) <| SW.R 1 (K8 p1 p2 p3 p0 []) <| SW.S <| OWk.G 2 [(2, vI p2), (3, Z0 p3), (4, Z1 p0), (16, Z23 p0), (17, vI p1)] ?_
 obtain ⟨r1, hr, h⟩ := aa h
 refine OWk.CH (some 18) [(2, vI p2), (3, Z0 p3), (4, Z1 p0), (18, .tup [.d (cP.enc r1.1.1), vI r1.1.2])] (sC hr) <| OWk.G 5 [(2, vI p2), (3, Z0 p3), (4, Z1 p0), (11, .d (cP.enc r1.1.1)), (12, vI r1.1.2)] <| OWk.E <| SW.seq <| SW.R 1 [(2, vI p2), (3, Z0 p3), (4, Z1 p0), (11, .d (cP.enc r1.1.1)), (12, vI r1.1.2), (22, vB (r1.1.2 != 0))] ?_
 refine SW.B (r1.1.2 != 0) (fun hc => ?_) (fun hc => ?_)
 ·replace h := an hc h
  refine SW.R 1 [(8, .d (.aL)), (9, vI 0), (10, vI r1.1.2)] <| SW.ret <| af ?_
  cases h
  exact aA.ret [] (by kernel_rfl) rfl
 ·replace h := ao hc h
  refine SW.skip <| ad <| SW.seq <| SW.R 1 [(2, vI p2), (3, Z0 p3), (4, Z1 p0), (11, .d (cP.enc r1.1.1)), (25, vB (decide (p2 < 0)))] ?_
  refine SW.B (decide (p2 < 0)) (fun hc => ?_) (fun hc => ?_)
  ·replace h := an hc h
   refine SW.R 1 [(8, .d (.aL)), (9, vI 0), (10, vI 7)] <| SW.ret <| af ?_
   cases h
   exact aA.ret [] (by kernel_rfl) rfl
  ·replace h := ao hc h
   refine SW.skip <| ad <| SW.S <| OWk.G 2 (K82 p3 p0 r1.1.1 [(26, .d (cP.enc r1.1.1)), (27, vI p2)]) ?_
   obtain ⟨i2, hp_i2, h⟩ := aa h
   refine OWk.O (d := some 28) (s := .d (.ptr i2 0)) (K82 p3 p0 r1.1.1 [(27, vI p2), (28, .d (.ptr i2 0))]) (BAt.oe (p := r1.1.1) hp_i2 (by kernel_rfl)) <| OWk.G 1 (K82 p3 p0 r1.1.1 [(27, vI p2), (29, .d (.ptr i2 5))]) ?_
   obtain ⟨H3, hx, h⟩ := aa h
   refine OWk.hst 84 H3 [3, 4, 11] (K82 p3 p0 r1.1.1 []) hx (by kernel_rfl) (by kernel_rfl) <| OWk.E <| SW.S <| OWk.G 2 (K82 p3 p0 r1.1.1 [(30, .d (cP.enc r1.1.1)), (31, Z0 p3)]) ?_
   obtain ⟨q4, hq, h⟩ := aa h
   refine OWk.iQ 84 q4.1 (d := some 32) (b := true) [] [3, 4, 11, 30, 31, 32] (K82 p3 p0 r1.1.1 [(30, .d (cP.enc r1.1.1)), (31, Z0 p3), (32, .d (.map q4.2))]) hq (by kernel_rfl) rfl (by kernel_rfl) ?_
   obtain ⟨i5, hp_i5, h⟩ := aa h
   refine OWk.asP r1.1.1 (fun p => (sp 84 (K82 p3 p0 p [(30, .d (cP.enc p)), (31, Z0 p3), (32, .d (.map q4.2))]) q4.1)) (by kernel_rfl) hp_i5 <| OWk.G 1 [(3, Z0 p3), (4, Z1 p0), (11, .d (.ptr i5 0)), (33, DY i5 p3 q4)] ?_
   obtain ⟨q6, hq, h⟩ := aa h
   refine OWk.iQ 84 q6.1 (d := some 34) (b := false) [] [3, 4, 11, 34] [(3, Z0 p3), (4, Z1 p0), (11, .d (.ptr i5 0)), (34, .d (.ptr q6.2 0))] hq (by kernel_rfl) rfl (by kernel_rfl) <| OWk.G 1 (K36 p3 p0 i5 q6.2 []) <| OWk.E <| SW.S <| OWk.G 2 (K36 p3 p0 i5 q6.2 [(35, .d (.ptr q6.2 0)), (36, DX)]) ?_
   obtain ⟨r7, hr, h⟩ := aa h
   refine OWk.CH (some 37) (K36 p3 p0 i5 q6.2 [(37, .d (cP.enc r7.1))]) (mQ hr) <| OWk.G 1 (K36 p3 p0 i5 q6.2 [(14, .d (cP.enc r7.1))]) <| OWk.E <| SW.seq <| SW.block ?_
   obtain ⟨jp9, hjjp9, h⟩ := bt h
   refine SW.jn 84 r7.2 [3, 4, 11, 13, 14, 38] (fun (j8 : (Option Nat) × Bool) => (K36 p3 p0 i5 q6.2 [(14, .d (cP.enc j8.1)), (38, vB j8.2)])) (fun v => jp9 v = some r) (fun j8 h => ?_) ?_
   ·rw [hjjp9] at h
    refine SW.B j8.2 (fun hc => ?_) (fun hc => ?_)
    ·replace h := an hc h
     refine SW.seq ?_
     obtain ⟨x11, hx11, h⟩ := aa h
     refine SW.K [(13, .d (.ptr q6.2 0))] ?_
     refine SW.nB 84 r7.2 (K75 x11 [(10, vI 12)]) [0] 6 1 (by kernel_rfl) (by kernel_rfl) (by kernel_rfl) (fun X hX => ?_) ?_
     ·have c127 : X 0 127 (sp 84 (K75 x11 [(10, vI 12)]) r7.2) := by subst hX; exact OX.fin (by kernel_rfl)
      have c63 : X 1 63 (sp 84 (K75 x11 []) r7.2) := by
       subst hX
       refine OX.step (i0 := 6) (is := []) (by kernel_rfl) (by kernel_rfl) ⟨?_, trivial⟩
       ·refine OWk.G 1 (K75 x11 [(10, vI 12)]) <| OWk.D ?_
        exact c127
      have c31 : X 2 31 (sp 84 [(8, .d (.aL)), (44, vI x11)] r7.2) := by
       subst hX
       refine OX.step (i0 := 5) (is := []) (by kernel_rfl) (by kernel_rfl) ⟨?_, trivial⟩
       ·refine OWk.G 1 (K75 x11 []) <| OWk.D ?_
        exact c63
      have c15 : X 3 15 (sp 84 [(44, vI x11)] r7.2) := by
       subst hX
       refine OX.step (i0 := 4) (is := []) (by kernel_rfl) (by kernel_rfl) ⟨?_, trivial⟩
       ·refine OWk.G 1 [(8, .d (.aL)), (44, vI x11)] <| OWk.D ?_
        exact c31
      have c23 : X 3 23 (sp 84 [(8, .d (.aL)), (43, .d (.ptr q6.2 4))] r7.2) := by
       subst hX
       refine OX.step (i0 := 3) (is := []) (by kernel_rfl) (by kernel_rfl) ⟨?_, trivial⟩
       ·refine OWk.O (d := some 44) (s := vI x11) [(8, .d (.aL)), (44, vI x11)] (BAt.ldH (c := (cI .i64).cell) hx11 (by kernel_rfl)) <| OWk.D ?_
        exact c31
      have c7 : X 4 7 (sp 84 [(43, .d (.ptr q6.2 4))] r7.2) := by
       subst hX
       refine OX.step (i0 := 3) (is := [4]) (by kernel_rfl) (by kernel_rfl) ⟨?_, ?_, trivial⟩
       ·refine OWk.O (d := some 44) (s := vI x11) [(44, vI x11)] (BAt.ldH (c := (cI .i64).cell) hx11 (by kernel_rfl)) <| OWk.D ?_
        exact c15
       ·refine OWk.G 1 [(8, .d (.aL)), (43, .d (.ptr q6.2 4))] <| OWk.D ?_
        exact c23
      have c19 : X 4 19 (sp 84 [(8, .d (.aL)), (42, .d (.ptr q6.2 0))] r7.2) := by
       subst hX
       refine OX.step (i0 := 2) (is := []) (by kernel_rfl) (by kernel_rfl) ⟨?_, trivial⟩
       ·refine OWk.G 1 [(8, .d (.aL)), (43, .d (.ptr q6.2 4))] <| OWk.D ?_
        exact c23
      have c3 : X 5 3 (sp 84 [(42, .d (.ptr q6.2 0))] r7.2) := by
       subst hX
       refine OX.step (i0 := 2) (is := [4]) (by kernel_rfl) (by kernel_rfl) ⟨?_, ?_, trivial⟩
       ·refine OWk.G 1 [(43, .d (.ptr q6.2 4))] <| OWk.D ?_
        exact c7
       ·refine OWk.G 1 [(8, .d (.aL)), (42, .d (.ptr q6.2 0))] <| OWk.D ?_
        exact c19
      have c17 : X 5 17 (sp 84 [(8, .d (.aL)), (41, .d (.ptr q6.2 0))] r7.2) := by
       subst hX
       refine OX.step (i0 := 1) (is := []) (by kernel_rfl) (by kernel_rfl) ⟨?_, trivial⟩
       ·refine OWk.G 1 [(8, .d (.aL)), (42, .d (.ptr q6.2 0))] <| OWk.D ?_
        exact c19
      have c1 : X 6 1 (sp 84 [(41, .d (.ptr q6.2 0))] r7.2) := by
       subst hX
       refine OX.step (i0 := 1) (is := [4]) (by kernel_rfl) (by kernel_rfl) ⟨?_, ?_, trivial⟩
       ·refine OWk.G 1 [(42, .d (.ptr q6.2 0))] <| OWk.D ?_
        exact c3
       ·refine OWk.G 1 [(8, .d (.aL)), (41, .d (.ptr q6.2 0))] <| OWk.D ?_
        exact c17
      refine OBk.G 1 [(41, .d (.ptr q6.2 0))] <| OBk.done (by kernel_rfl) ?_
      exact c1
     refine ad <| SW.ret <| ax <| af ?_
     cases h
     exact aA.ret [] (by kernel_rfl) rfl
    ·replace h := ao hc h
     refine SW.S <| OWk.G 3 (K36 p3 p0 i5 q6.2 [(14, .d (cP.enc j8.1)), (48, .d (.ptr q6.2 2))]) ?_
     obtain ⟨x12, hx, h⟩ := aa h
     refine OWk.O (d := some 49) (s := vI x12) (K36 p3 p0 i5 q6.2 [(14, .d (cP.enc j8.1)), (49, vI x12)]) (BAt.ldH (c := (cI .i64).cell) hx (by kernel_rfl)) <| OWk.G 1 (K47 p0 i5 q6.2 j8.1 [(49, vI x12), (50, Z0 p3)]) <| OWk.O (d := some 51) (K47 p0 i5 q6.2 j8.1 [(49, vI x12), (51, vI (p3.length : Int))]) (BAt.len (enc := aI) (xs := p3) (by kernel_rfl)) <| OWk.G 2 (K47 p0 i5 q6.2 j8.1 [(45, B1 x12 p3)]) <| OWk.E ?_
     refine SW.B (decide (x12 < (p3.length : Int))) (fun hc => ?_) (fun hc => ?_)
     ·replace h := an hc h
      refine SW.seq ?_
      obtain ⟨x13, hx13, h⟩ := aa h
      refine SW.K [(13, .d (.ptr q6.2 0))] ?_
      refine SW.nB 84 r7.2 (K75 x13 [(10, vI 12)]) [0] 6 1 (by kernel_rfl) (by kernel_rfl) (by kernel_rfl) (fun X hX => ?_) ?_
      ·have c127 : X 0 127 (sp 84 (K75 x13 [(10, vI 12)]) r7.2) := by subst hX; exact OX.fin (by kernel_rfl)
       have c63 : X 1 63 (sp 84 (K75 x13 []) r7.2) := by
        subst hX
        refine OX.step (i0 := 6) (is := []) (by kernel_rfl) (by kernel_rfl) ⟨?_, trivial⟩
        ·refine OWk.G 1 (K75 x13 [(10, vI 12)]) <| OWk.D ?_
         exact c127
       have c31 : X 2 31 (sp 84 [(8, .d (.aL)), (56, vI x13)] r7.2) := by
        subst hX
        refine OX.step (i0 := 5) (is := []) (by kernel_rfl) (by kernel_rfl) ⟨?_, trivial⟩
        ·refine OWk.G 1 (K75 x13 []) <| OWk.D ?_
         exact c63
       have c15 : X 3 15 (sp 84 [(56, vI x13)] r7.2) := by
        subst hX
        refine OX.step (i0 := 4) (is := []) (by kernel_rfl) (by kernel_rfl) ⟨?_, trivial⟩
        ·refine OWk.G 1 [(8, .d (.aL)), (56, vI x13)] <| OWk.D ?_
         exact c31
       have c23 : X 3 23 (sp 84 [(8, .d (.aL)), (55, .d (.ptr q6.2 2))] r7.2) := by
        subst hX
        refine OX.step (i0 := 3) (is := []) (by kernel_rfl) (by kernel_rfl) ⟨?_, trivial⟩
        ·refine OWk.O (d := some 56) (s := vI x13) [(8, .d (.aL)), (56, vI x13)] (BAt.ldH (c := (cI .i64).cell) hx13 (by kernel_rfl)) <| OWk.D ?_
         exact c31
       have c7 : X 4 7 (sp 84 [(55, .d (.ptr q6.2 2))] r7.2) := by
        subst hX
        refine OX.step (i0 := 3) (is := [4]) (by kernel_rfl) (by kernel_rfl) ⟨?_, ?_, trivial⟩
        ·refine OWk.O (d := some 56) (s := vI x13) [(56, vI x13)] (BAt.ldH (c := (cI .i64).cell) hx13 (by kernel_rfl)) <| OWk.D ?_
         exact c15
        ·refine OWk.G 1 [(8, .d (.aL)), (55, .d (.ptr q6.2 2))] <| OWk.D ?_
         exact c23
       have c19 : X 4 19 (sp 84 [(8, .d (.aL)), (54, .d (.ptr q6.2 0))] r7.2) := by
        subst hX
        refine OX.step (i0 := 2) (is := []) (by kernel_rfl) (by kernel_rfl) ⟨?_, trivial⟩
        ·refine OWk.G 1 [(8, .d (.aL)), (55, .d (.ptr q6.2 2))] <| OWk.D ?_
         exact c23
       have c3 : X 5 3 (sp 84 [(54, .d (.ptr q6.2 0))] r7.2) := by
        subst hX
        refine OX.step (i0 := 2) (is := [4]) (by kernel_rfl) (by kernel_rfl) ⟨?_, ?_, trivial⟩
        ·refine OWk.G 1 [(55, .d (.ptr q6.2 2))] <| OWk.D ?_
         exact c7
        ·refine OWk.G 1 [(8, .d (.aL)), (54, .d (.ptr q6.2 0))] <| OWk.D ?_
         exact c19
       have c17 : X 5 17 (sp 84 [(8, .d (.aL)), (53, .d (.ptr q6.2 0))] r7.2) := by
        subst hX
        refine OX.step (i0 := 1) (is := []) (by kernel_rfl) (by kernel_rfl) ⟨?_, trivial⟩
        ·refine OWk.G 1 [(8, .d (.aL)), (54, .d (.ptr q6.2 0))] <| OWk.D ?_
         exact c19
       have c1 : X 6 1 (sp 84 [(53, .d (.ptr q6.2 0))] r7.2) := by
        subst hX
        refine OX.step (i0 := 1) (is := [4]) (by kernel_rfl) (by kernel_rfl) ⟨?_, ?_, trivial⟩
        ·refine OWk.G 1 [(54, .d (.ptr q6.2 0))] <| OWk.D ?_
         exact c3
        ·refine OWk.G 1 [(8, .d (.aL)), (53, .d (.ptr q6.2 0))] <| OWk.D ?_
         exact c17
       refine OBk.G 1 [(53, .d (.ptr q6.2 0))] <| OBk.done (by kernel_rfl) ?_
       exact c1
      refine ad <| SW.ret <| ax <| af ?_
      cases h
      exact aA.ret [] (by kernel_rfl) rfl
     ·replace h := ao hc h
      refine SW.S <| OWk.G 3 (K47 p0 i5 q6.2 j8.1 [(60, .d (.ptr q6.2 3))]) ?_
      obtain ⟨x14, hx, h⟩ := aa h
      refine OWk.O (d := some 61) (s := .d (cM.enc x14)) (K47 p0 i5 q6.2 j8.1 [(61, .d (cM.enc x14))]) (BAt.ldH (c := cM.cell) hx (by kernel_rfl)) ?_
      obtain ⟨q15, hq, h⟩ := aa h
      refine OWk.O (d := some 62) (s := .d (.int .i64 q15)) (K47 p0 i5 q6.2 j8.1 [(62, vI q15)]) (BAt.zm (kc := (kI .i64)) (v := cB) (mm := x14) hq (by kernel_rfl)) <| OWk.G 2 (K47 p0 i5 q6.2 j8.1 [(57, vB (decide (q15 > 500)))]) <| OWk.E ?_
      refine SW.B (decide (q15 > 500)) (fun hc => ?_) (fun hc => ?_)
      ·replace h := an hc h
       refine SW.R 1 [(8, .d (.aL)), (9, vI 0), (10, vI 4)] <| SW.ret <| ax <| af ?_
       cases h
       exact aA.ret [] (by kernel_rfl) rfl
      ·replace h := ao hc h
       refine SW.skip <| aH <| ad <| SW.S <| OWk.G 6 (K96 p0 i5 i5 i5 j8.1 [(69, .d (.ptr q6.2 3))]) ?_
       obtain ⟨x16, hx, h⟩ := aa h
       refine OWk.O (d := some 70) (s := .d (cM.enc x16)) (K96 p0 i5 i5 i5 j8.1 [(70, .d (cM.enc x16))]) (BAt.ldH (c := cM.cell) hx (by kernel_rfl)) ?_
       obtain ⟨q17, hq, h⟩ := aa h
       refine OWk.O (d := some 71) (s := .d (.int .i64 q17)) (K96 p0 i5 i5 i5 j8.1 [(71, vI q17)]) (BAt.zm (kc := (kI .i64)) (v := cB) (mm := x16) hq (by kernel_rfl)) <| OWk.G 2 [(4, Z1 p0), (11, .d (.ptr i5 0)), (65, .d (.ptr i5 0)), (66, .d (cP.enc j8.1)), (71, vI q17), (73, .d (.ptr i5 4))] ?_
       obtain ⟨H18, hx, h⟩ := aa h
       refine OWk.CF 84 H18 [4, 11, 65, 71] [(4, Z1 p0), (11, .d (.ptr i5 0)), (65, .d (.ptr i5 0)), (71, vI q17)] hx (by kernel_rfl) (by kernel_rfl) <| OWk.G 2 [(4, Z1 p0), (11, .d (.ptr i5 0)), (71, vI q17), (75, .d (.ptr i5 6))] ?_
       obtain ⟨H19, hx, h⟩ := aa h
       refine OWk.hst 84 H19 [4, 11] [(4, Z1 p0), (11, .d (.ptr i5 0))] hx (by kernel_rfl) (by kernel_rfl) <| OWk.E <| SW.S <| OWk.G 3 [(11, .d (.ptr i5 0)), (76, .d (.ptr i5 0)), (78, Z24 p0)] ?_
       obtain ⟨r20, hr, h⟩ := aa h
       refine OWk.C0 (some 79) [(11, .d (.ptr i5 0)), (76, .d (.ptr i5 0)), (79, .own 1 (List.map (D.int .i64) r20))] (eP hr) <| OWk.G 3 [(11, .d (.ptr i5 0)), (79, Z44 r20), (82, .d (.ptr i5 0))] ?_
       obtain ⟨H21, hx, h⟩ := aa h
       refine OWk.gvH (c := (cI .i64)) (n' := 1) (s := 79) (xs := r20) 84 [11] [(11, .d (.ptr i5 0))] hx (by kernel_rfl) (by kernel_rfl) <| OWk.E <| SW.R 1 [(8, .d (.ptr i5 0)), (9, vI (-1)), (10, vI 0)] <| SW.ret ?_
       cases h
       exact aA.ret [] (by kernel_rfl) rfl
   ·refine SW.au <| OWk.G 1 (K36 p3 p0 i5 q6.2 [(14, .d (cP.enc r7.1)), (39, .d (cP.enc r7.1))]) ?_
    refine OWk.jG r7.1 (fun p => (sp 84 (K36 p3 p0 i5 q6.2 [(14, .d (cP.enc p)), (39, .d (cP.enc p))]) r7.2)) (by kernel_rfl) (fun hp => ?_) (fun i10 hp => ?_)
    ·rw [hp] at h
     replace h := iq h
     refine OWk.G 2 (K36 p3 p0 i5 q6.2 [(14, .d (.aL)), (38, vB true)]) <| OWk.D ?_
     exact ⟨(none, true), [], by kernel_rfl, h⟩
    ·rw [hp] at h
     replace h := im h
     refine OWk.G 2 (K36 p3 p0 i5 q6.2 [(14, .d (.ptr i10 0)), (38, vB false)]) <| OWk.D ?_
     exact ⟨((some i10), false), [], by kernel_rfl, h⟩
theorem iS (x : ah) : cC (bo x) = true := by simp [bo, cC, cD, dp (f := (D.int .i64)) (fun _ => rfl), dp (f := D.bool) (fun _ => rfl)]
theorem tx (x : Value) : cC (ag x) = true := by simp [ag, cC, cD]
theorem tz (x : Entry) : cC (ab x) = true := by simp [ab, cC, cD, dp (f := ag) tx]
theorem lM (x : Node) : cC (aI x) = true := by simp [aI, cC, cD, dp (f := ab) tz, dp (f := (D.int .i64)) (fun _ => rfl)]
def lV (fuel : Nat) (p0 : ah) (p1 : Int) (p2 : Int) (p3 : (List Node)) : Option (Int × Int) :=
 (iO fuel p0 p1 p2 p3 []).bind fun r1 =>
 some (r1.1.2.1, r1.1.2.2)
theorem uj {fuel : Nat} {p0 : ah} {p1 : Int} {p2 : Int} {p3 : (List Node)} {r : Int × Int} (h : lV fuel p0 p1 p2 p3 = some r) : PC Try.prog 12 [.d (bo p0), vI p1, vI p2, .d (.list 3 (List.map aI p3))] (.tup [vI r.1, vI r.2]) := by
 refine PC.ju Try.func12 rfl (by simp [cU, cC, cD, vI, vB, vS, iS, dp (f := aI) lM]) (by simp [cU, cC, cD, vI, vB, vS]) ?_
 unfold lV at h
 refine SW.kp 21 [] [0, 1, 2, 3] [(0, Z23 p0), (1, vI p1), (2, vI p2), (3, Z0 p3)] (by kernel_rfl) <| SW.R 1 (K8 p1 p2 p3 p0 []) <| SW.S <| OWk.G 4 [(11, Z23 p0), (12, vI p1), (13, vI p2), (14, Z0 p3)] ?_
 obtain ⟨r1, hr, h⟩ := aa h
 refine OWk.CH (some 15) [(15, .tup [.d (cP.enc r1.1.1), vI r1.1.2.1, vI r1.1.2.2])] (qE hr) <| OWk.G 6 [(8, vI r1.1.2.1), (9, vI r1.1.2.2)] <| OWk.E <| SW.R 1 [(8, vI r1.1.2.1), (9, vI r1.1.2.2)] <| SW.ret ?_
 cases h
 exact gh.ret [] (by kernel_rfl)
def hU (fuel : Nat) (p0 : ah) (y1 : Int) : Option ((Int) ⊕ ((Unit) ⊕ ((Bool)))) :=
 bif (decide (y1 < (p0.aq.length : Int))) then
  (idx p0.aq y1).bind fun x2 =>
  bif (x2 != 1) then
   (idx p0.aq y1).bind fun x3 =>
   bif (x3 != 2) then
    some (.inr (.inr false))
   else
    some (.inl (IntKind.wrap .i64 (y1 + 1)))
  else
   some (.inl (IntKind.wrap .i64 (y1 + 1)))
 else
  some (.inr (.inl ()))
def mb (fuel : Nat) (p0 : ah) : Option (Bool) :=
 (iter (hU fuel p0) fuel 0).bind (Sum.elim (fun v5 =>
  bif (decide ((p0.aq.length : Int) ≥ 1)) then
   bif (decide ((p0.aq.length : Int) ≤ 8)) then
    some ((((p0.Down.length : Int) == (p0.aq.length : Int)) && (decide (p0.Dup ≥ 1))) && (decide (p0.Dup ≤ 3)))
   else
    some false
  else
   some false) (fun r6 =>
  some r6))
def K95 := fun a0 a1 (t : SL) => ((1, Z1 a0) :: (3, vI a1) :: t : SL)
theorem uA {fuel : Nat} {p0 : ah} {r : Bool} (h : mb fuel p0 = some r) : PC Try.prog 11 [.d (bo p0)] (vB r) := by
 refine PC.br Try.func11 rfl fun H => ?_
 unfold mb at h
 refine SW.kp 54 H [0] [(0, Z23 p0)] (by kernel_rfl) <| SW.R 1 [(1, Z1 p0)] <| SW.seq <| SW.R 1 [(1, Z1 p0), (3, vI 0)] <| SW.block ?_
 obtain ⟨z4, hit, h⟩ := aa h
 refine SW.it 54 H [1, 3] (fun y1 => (K95 p0 y1 [])) (fun b e s => ((∃ v5, b = (.inl v5) ∧ (e = .exit 0 ∧ s = (sp 54 [(1, Z1 p0)] H))) ∨ (∃ r6, b = (.inr r6) ∧ (e = .ret ∧ aA Try.prog Try.f11.results.toList H (vB r6) .ret s)))) hit (by kernel_rfl) (fun y1 o h => ?_) ?_
 ·unfold hU at h
  refine SW.seq <| SW.S <| OWk.G 3 (K95 p0 y1 [(4, vI y1), (6, Z24 p0)]) <| OWk.O (d := some 7) (K95 p0 y1 [(4, vI y1), (7, Z37 p0)]) (BAt.len (enc := (D.int .i64)) (xs := p0.aq) (by kernel_rfl)) <| OWk.G 1 (K95 p0 y1 [(8, Z96 y1 p0)]) <| OWk.E ?_
  refine SW.B (decide (y1 < (p0.aq.length : Int))) (fun hc => ?_) (fun hc => ?_)
  ·replace h := an hc h
   refine SW.skip <| ad <| SW.seq <| SW.block <| SW.S <| OWk.G 3 (K95 p0 y1 [(12, Z24 p0), (13, vI y1)]) ?_
   obtain ⟨x2, hx, h⟩ := aa h
   refine OWk.O (d := some 14) (s := aO none (Go.Sh.D.cells ((D.int .i64) x2))) (K95 p0 y1 [(14, .d (.aR [.int .i64 x2]))]) (BAt.index (n := 1) hx (by kernel_rfl)) <| OWk.G 3 (K95 p0 y1 [(17, vB (x2 != 1))]) ?_
   refine OWk.case (x2 != 1) (fun b => (sp 54 (K95 p0 y1 [(17, vB b)]) H)) (by kernel_rfl) (fun hc => ?_) (fun hc => ?_)
   ·replace h := an hc h
    refine OWk.G 3 (K95 p0 y1 [(17, vB true), (19, Z24 p0), (20, vI y1)]) ?_
    obtain ⟨x3, hx, h⟩ := aa h
    refine OWk.O (d := some 21) (s := aO none (Go.Sh.D.cells ((D.int .i64) x3))) (K95 p0 y1 [(17, vB true), (21, .d (.aR [.int .i64 x3]))]) (BAt.index (n := 1) hx (by kernel_rfl)) <| OWk.G 3 (K95 p0 y1 [(24, vB (x3 != 2))]) <| OWk.E ?_
    refine SW.B (x3 != 2) (fun hc => ?_) (fun hc => ?_)
    ·replace h := an hc h
     refine SW.R 1 [(2, vB false)] <| SW.ret <| ax <| af ?_
     cases h
     refine af ?_
     exact ⟨_, rfl, .inr (⟨false, rfl, rfl, aA.ret [] (by kernel_rfl) rfl⟩)⟩
    ·replace h := ao hc h
     refine SW.skip <| aH <| ad <| SW.au <| OWk.G 3 [(1, Z1 p0), (3, Z18 y1)] <| OWk.D ?_
     cases h
     exact ⟨(IntKind.wrap .i64 (y1 + 1)), rfl, by kernel_rfl⟩
   ·replace h := ao hc h
    refine OWk.G 7 (K95 p0 y1 [(24, vB false)]) <| OWk.E <| SW.fh (by kernel_rfl) <| SW.skip <| aH <| ad <| SW.au <| OWk.G 3 [(1, Z1 p0), (3, Z18 y1)] <| OWk.D ?_
    cases h
    exact ⟨(IntKind.wrap .i64 (y1 + 1)), rfl, by kernel_rfl⟩
  ·replace h := ao hc h
   refine SW.K [(1, Z1 p0)] <| SW.exit <| aJ ?_
   cases h
   refine aJ ?_
   exact ⟨_, rfl, .inl ⟨(), rfl, rfl, rfl⟩⟩
 ·rintro _ _ (⟨v5, rfl, rfl, rfl⟩ | ⟨r6, rfl, rfl, hE⟩)
  ·replace h := dO h
   refine aT <| ad <| SW.S <| OWk.G 2 [(1, Z1 p0), (26, Z24 p0)] <| OWk.O (d := some 27) [(1, Z1 p0), (27, Z37 p0)] (BAt.len (enc := (D.int .i64)) (xs := p0.aq) (by kernel_rfl)) <| OWk.G 2 [(1, Z1 p0), (29, Z25 p0)] ?_
   refine OWk.case (decide ((p0.aq.length : Int) ≥ 1)) (fun b => (sp 54 [(1, Z1 p0), (29, vB b)] H)) (by kernel_rfl) (fun hc => ?_) (fun hc => ?_)
   ·replace h := an hc h
    refine OWk.G 2 [(1, Z1 p0), (29, vB true), (31, Z24 p0)] <| OWk.O (d := some 32) [(1, Z1 p0), (29, vB true), (32, Z37 p0)] (BAt.len (enc := (D.int .i64)) (xs := p0.aq) (by kernel_rfl)) <| OWk.G 3 [(1, Z1 p0), (35, Z26 p0)] ?_
    refine OWk.case (decide ((p0.aq.length : Int) ≤ 8)) (fun b => (sp 54 [(1, Z1 p0), (35, vB b)] H)) (by kernel_rfl) (fun hc => ?_) (fun hc => ?_)
    ·replace h := an hc h
     refine OWk.G 2 [(1, Z1 p0), (35, vB true), (37, Z27 p0)] <| OWk.O (d := some 38) [(1, Z1 p0), (35, vB true), (38, Z28 p0)] (BAt.len (enc := D.bool) (xs := p0.Down) (by kernel_rfl)) <| OWk.G 2 [(1, Z1 p0), (35, vB true), (38, Z28 p0), (40, Z24 p0)] <| OWk.O (d := some 41) [(1, Z1 p0), (35, vB true), (38, Z28 p0), (41, Z37 p0)] (BAt.len (enc := (D.int .i64)) (xs := p0.aq) (by kernel_rfl)) <| OWk.G 3 [(1, Z1 p0), (44, Z29 p0)] <| OWk.M 4 ((p0.Down.length : Int) == (p0.aq.length : Int)) (fun b => [(1, Z1 p0), (44, vB b)]) (fun b => [(1, Z1 p0), (48, vB (b && (decide (p0.Dup ≥ 1))))]) <| OWk.G 1 [(1, Z1 p0), (49, Z30 p0)] <| OWk.M 4 (((p0.Down.length : Int) == (p0.aq.length : Int)) && (decide (p0.Dup ≥ 1))) (fun b => [(1, Z1 p0), (49, vB b)]) (fun b => [(53, vB (b && (decide (p0.Dup ≤ 3))))]) <| OWk.G 1 [(2, Z31 p0)] <| OWk.E <| SW.ret ?_
     cases h
     exact aA.ret [] (by kernel_rfl) rfl
    ·replace h := ao hc h
     refine OWk.G 19 [(2, vB false)] <| OWk.E <| SW.ret ?_
     cases h
     exact aA.ret [] (by kernel_rfl) rfl
   ·replace h := ao hc h
    refine OWk.G 25 [(2, vB false)] <| OWk.E <| SW.ret ?_
    cases h
    exact aA.ret [] (by kernel_rfl) rfl
  ·replace h := dN h
   refine ax <| af ?_
   cases h
   exact hE
def dS (fuel : Nat) (p0 : Value) : Option (Bool) :=
 bif (p0.Kind == 1) then
  some (((decide (p0.N ≥ (-1000000000))) && (decide (p0.N ≤ 1000000000))) && (p0.S == []))
 else
  bif ((p0.Kind == 2) && (p0.N == 0)) then
   some (decide ((p0.S.length : Int) ≤ 40))
  else
   some false
def DA (x0 : Int) (x1 : Int) : SV := vB (((decide (x0 < 3)) || (decide (x0 > 32))) || (decide (x1 < 0)))
def Dz (x0 : (List Node)) : SV := vB ((x0.length : Int) == 0)
def AS (x0 : Nat) (x1 : (List Node)) : SV := .bf (.ai x0 5) 3 (List.map aI x1)
def Dy (x0 : Value) : SV := vB (decide (x0.N ≥ (-1000000000)))
def Dx (x0 : Value) : SV := vB ((decide (x0.N ≥ (-1000000000))) && (decide (x0.N ≤ 1000000000)))
def Dw (x0 : Value) : SV := vB (((decide (x0.N ≥ (-1000000000))) && (decide (x0.N ≤ 1000000000))) && (x0.S == []))
def Dv (x0 : Value) : SV := vB ((x0.Kind == 2) && (x0.N == 0))
theorem mc {fuel : Nat} {p0 : Value} {r : Bool} (h : dS fuel p0 = some r) : PC Try.prog 84 [.d (ag p0)] (vB r) := by
 refine PC.br Try.func84 rfl fun H => ?_
 unfold dS at h
 refine SW.kp 33 H [0] [(0, Z58 p0)] (by kernel_rfl) <| SW.R 1 [(1, Z57 p0)] <| SW.seq <| SW.R 1 [(1, Z57 p0), (5, vB (p0.Kind == 1))] ?_
 refine SW.B (p0.Kind == 1) (fun hc => ?_) (fun hc => ?_)
 ·replace h := an hc h
  refine SW.S <| OWk.G 4 [(1, Z57 p0), (9, Dy p0)] <| OWk.M 4 (decide (p0.N ≥ (-1000000000))) (fun b => [(1, Z57 p0), (9, vB b)]) (fun b => [(1, Z57 p0), (13, vB (b && (decide (p0.N ≤ 1000000000))))]) <| OWk.G 1 [(1, Z57 p0), (14, Dx p0)] <| OWk.M 4 ((decide (p0.N ≥ (-1000000000))) && (decide (p0.N ≤ 1000000000))) (fun b => [(1, Z57 p0), (14, vB b)]) (fun b => [(18, vB (b && (p0.S == [])))]) <| OWk.G 1 [(2, Dw p0)] <| OWk.E <| SW.ret <| af ?_
  cases h
  exact aA.ret [] (by kernel_rfl) rfl
 ·replace h := ao hc h
  refine SW.skip <| ad <| SW.S <| OWk.G 4 [(1, Z57 p0), (22, vB (p0.Kind == 2))] <| OWk.M 4 (p0.Kind == 2) (fun b => [(1, Z57 p0), (22, vB b)]) (fun b => [(1, Z57 p0), (26, vB (b && (p0.N == 0)))]) <| OWk.G 1 [(1, Z57 p0), (27, Dv p0)] ?_
  refine OWk.case ((p0.Kind == 2) && (p0.N == 0)) (fun b => (sp 33 [(1, Z57 p0), (27, vB b)] H)) (by kernel_rfl) (fun hc => ?_) (fun hc => ?_)
  ·replace h := an hc h
   refine OWk.G 2 [(27, vB true), (29, vS p0.S)] <| OWk.G 1 [(27, vB true), (30, vI (p0.S.length : Int))] <| OWk.G 3 [(2, Z66 p0)] <| OWk.E <| SW.ret ?_
   cases h
   exact aA.ret [] (by kernel_rfl) rfl
  ·replace h := ao hc h
   refine OWk.G 6 [(2, vB false)] <| OWk.E <| SW.ret ?_
   cases h
   exact aA.ret [] (by kernel_rfl) rfl
def dw (fuel : Nat) (p0 : (List Value)) (y1 : Int) : Option ((Int) ⊕ ((Unit) ⊕ ((Bool)))) :=
 bif (decide (y1 < (p0.length : Int))) then
  (idx p0 y1).bind fun x2 =>
  (dS fuel x2).bind fun r3 =>
  bif (!r3) then
   some (.inr (.inr false))
  else
   some (.inl (IntKind.wrap .i64 (y1 + 1)))
 else
  some (.inr (.inl ()))
def fG (fuel : Nat) (p0 : (List Value)) : Option (Bool) :=
 (iter (dw fuel p0) fuel 0).bind (Sum.elim (fun v5 =>
  some (decide ((p0.length : Int) ≤ 8))) (fun r6 =>
  some r6))
def Du (x0 : (List Value)) : SV := vB (decide ((x0.length : Int) ≤ 8))
theorem od {fuel : Nat} {p0 : (List Value)} {r : Bool} (h : fG fuel p0 = some r) : PC Try.prog 65 [.d (.list 3 (List.map ag p0))] (vB r) := by
 refine PC.br Try.func65 rfl fun H => ?_
 unfold fG at h
 refine SW.kp 19 H [0] [(0, Z13 p0)] (by kernel_rfl) <| SW.R 1 [(0, Z13 p0)] <| SW.seq <| SW.R 1 [(0, Z13 p0), (3, vI 0)] <| SW.block ?_
 obtain ⟨z4, hit, h⟩ := aa h
 refine SW.it 19 H [0, 3] (fun y1 => [(0, Z13 p0), (3, vI y1)]) (fun b e s => ((∃ v5, b = (.inl v5) ∧ (e = .exit 0 ∧ s = (sp 19 [(0, Z13 p0)] H))) ∨ (∃ r6, b = (.inr r6) ∧ (e = .ret ∧ aA Try.prog Try.f65.results.toList H (vB r6) .ret s)))) hit (by kernel_rfl) (fun y1 o h => ?_) ?_
 ·unfold dw at h
  refine SW.seq <| SW.S <| OWk.G 2 [(0, Z13 p0), (3, vI y1), (4, vI y1), (5, Z13 p0)] <| OWk.O (d := some 6) [(0, Z13 p0), (3, vI y1), (4, vI y1), (6, vI (p0.length : Int))] (BAt.len (enc := ag) (xs := p0) (by kernel_rfl)) <| OWk.G 1 [(0, Z13 p0), (3, vI y1), (7, Z17 y1 p0)] <| OWk.E ?_
  refine SW.B (decide (y1 < (p0.length : Int))) (fun hc => ?_) (fun hc => ?_)
  ·replace h := an hc h
   refine SW.skip <| ad <| SW.seq <| SW.block <| SW.S <| OWk.G 2 [(0, Z13 p0), (3, vI y1), (10, Z13 p0), (11, vI y1)] ?_
   obtain ⟨x2, hx, h⟩ := aa h
   refine OWk.O (d := some 12) (s := aO none (Go.Sh.D.cells (ag x2))) [(0, Z13 p0), (3, vI y1), (12, .d (.aR [.int .i64 x2.Kind, .int .i64 x2.N, .str x2.S]))] (BAt.index (n := 3) hx (by kernel_rfl)) <| OWk.G 1 [(0, Z13 p0), (3, vI y1), (13, Z58 x2)] ?_
   obtain ⟨r3, hr, h⟩ := aa h
   refine OWk.C0 (some 14) [(0, Z13 p0), (3, vI y1), (14, vB r3)] (mc hr) <| OWk.G 1 [(0, Z13 p0), (3, vI y1), (15, vB (!r3))] <| OWk.E ?_
   refine SW.B (!r3) (fun hc => ?_) (fun hc => ?_)
   ·replace h := an hc h
    refine SW.R 1 [(2, vB false)] <| SW.ret <| ax <| af ?_
    cases h
    refine af ?_
    exact ⟨_, rfl, .inr (⟨false, rfl, rfl, aA.ret [] (by kernel_rfl) rfl⟩)⟩
   ·replace h := ao hc h
    refine SW.skip <| aH <| ad <| SW.au <| OWk.G 3 [(0, Z13 p0), (3, Z18 y1)] <| OWk.D ?_
    cases h
    exact ⟨(IntKind.wrap .i64 (y1 + 1)), rfl, by kernel_rfl⟩
  ·replace h := ao hc h
   refine SW.K [(0, Z13 p0)] <| SW.exit <| aJ ?_
   cases h
   refine aJ ?_
   exact ⟨_, rfl, .inl ⟨(), rfl, rfl, rfl⟩⟩
 ·rintro _ _ (⟨v5, rfl, rfl, rfl⟩ | ⟨r6, rfl, rfl, hE⟩)
  ·replace h := dO h
   refine aT <| ad <| SW.S <| OWk.G 1 [(16, Z13 p0)] <| OWk.O (d := some 17) [(17, vI (p0.length : Int))] (BAt.len (enc := ag) (xs := p0) (by kernel_rfl)) <| OWk.G 2 [(2, Du p0)] <| OWk.E <| SW.ret ?_
   cases h
   exact aA.ret [] (by kernel_rfl) rfl
  ·replace h := dN h
   refine ax <| af ?_
   cases h
   exact hE
def jV (fuel : Nat) (p0 : ah) (p1 : (List Value)) (y4 : Int) : Option ((Int) ⊕ ((Unit) ⊕ ((Bool)))) :=
 bif (decide (y4 < (p1.length : Int))) then
  (idx p1 y4).bind fun x5 =>
  (idx p0.aq y4).bind fun x6 =>
  bif (x5.Kind != x6) then
   some (.inr (.inr false))
  else
   some (.inl (IntKind.wrap .i64 (y4 + 1)))
 else
  some (.inr (.inl ()))
def sN (fuel : Nat) (p0 : ah) (p1 : (List Value)) : Option (Bool) :=
 aX (fun (j1 : Bool) =>
  bif j1 then
   some false
  else
   (iter (jV fuel p0 p1) fuel 0).bind (Sum.elim (fun v8 =>
    some true) (fun r9 =>
    some r9))) fun jp2 =>
 (fG fuel p1).bind fun r3 =>
 bif (!r3) then
  jp2 true
 else
  jp2 ((p1.length : Int) != (p0.aq.length : Int))
theorem xt {fuel : Nat} {p0 : ah} {p1 : (List Value)} {r : Bool} (h : sN fuel p0 p1 = some r) : PC Try.prog 47 [.d (bo p0), .d (.list 3 (List.map ag p1))] (vB r) := by
 refine PC.br Try.func47 rfl fun H => ?_
 unfold sN at h
 refine SW.kp 34 H [0, 1] [(0, Z23 p0), (1, Z13 p1)] (by kernel_rfl) <| SW.R 1 (K42 p1 p0 []) <| SW.seq ?_
 obtain ⟨jp2, hjjp2, h⟩ := bt h
 refine SW.jn 34 H [1, 2, 16] (fun (j1 : Bool) => (K42 p1 p0 [(16, vB j1)])) (fun v => jp2 v = some r) (fun j1 h => ?_) ?_
 ·rw [hjjp2] at h
  refine SW.B j1 (fun hc => ?_) (fun hc => ?_)
  ·replace h := an hc h
   refine SW.R 1 [(4, vB false)] <| SW.ret <| af ?_
   cases h
   exact aA.ret [] (by kernel_rfl) rfl
  ·replace h := ao hc h
   refine SW.skip <| ad <| SW.seq <| SW.R 1 (K42 p1 p0 [(5, vI 0)]) <| SW.block ?_
   obtain ⟨z7, hit, h⟩ := aa h
   refine SW.it 34 H [1, 2, 5] (fun y4 => (K42 p1 p0 [(5, vI y4)])) (fun b e s => ((∃ v8, b = (.inl v8) ∧ (e = .exit 0 ∧ s = (sp 34 [] H))) ∨ (∃ r9, b = (.inr r9) ∧ (e = .ret ∧ aA Try.prog Try.f47.results.toList H (vB r9) .ret s)))) hit (by kernel_rfl) (fun y4 o h => ?_) ?_
   ·unfold jV at h
    refine SW.seq <| SW.S <| OWk.G 2 (K42 p1 p0 [(5, vI y4), (17, vI y4), (18, Z13 p1)]) <| OWk.O (d := some 19) (K42 p1 p0 [(5, vI y4), (17, vI y4), (19, vI (p1.length : Int))]) (BAt.len (enc := ag) (xs := p1) (by kernel_rfl)) <| OWk.G 1 (K42 p1 p0 [(5, vI y4), (20, Z17 y4 p1)]) <| OWk.E ?_
    refine SW.B (decide (y4 < (p1.length : Int))) (fun hc => ?_) (fun hc => ?_)
    ·replace h := an hc h
     refine SW.skip <| ad <| SW.seq <| SW.block <| SW.seq <| SW.gz (by kernel_rfl) (by kernel_rfl) <| OBk.G 2 (K42 p1 p0 [(5, vI y4), (23, Z13 p1), (24, vI y4)]) ?_
     obtain ⟨x5, hx, h⟩ := aa h
     refine OBk.O (d := some 25) (s := aO none (Go.Sh.D.cells (ag x5))) (K42 p1 p0 [(5, vI y4), (25, .d (.aR [.int .i64 x5.Kind, .int .i64 x5.N, .str x5.S]))]) (BAt.index (n := 3) hx (by kernel_rfl)) <| OBk.G 5 (K42 p1 p0 [(5, vI y4), (27, vI x5.Kind), (29, Z24 p0), (30, vI y4)]) ?_
     obtain ⟨x6, hx, h⟩ := aa h
     refine OBk.O (d := some 31) (s := aO none (Go.Sh.D.cells ((D.int .i64) x6))) (K42 p1 p0 [(5, vI y4), (27, vI x5.Kind), (31, .d (.aR [.int .i64 x6]))]) (BAt.index (n := 1) hx (by kernel_rfl)) <| OBk.G 2 (K42 p1 p0 [(5, vI y4), (33, vB (x5.Kind != x6))]) <| OBk.done (by kernel_rfl) <| ad ?_
     refine SW.B (x5.Kind != x6) (fun hc => ?_) (fun hc => ?_)
     ·replace h := an hc h
      refine SW.R 1 [(4, vB false)] <| SW.ret <| ax <| af ?_
      cases h
      refine af ?_
      exact ⟨_, rfl, .inr (⟨false, rfl, rfl, aA.ret [] (by kernel_rfl) rfl⟩)⟩
     ·replace h := ao hc h
      refine SW.skip <| aH <| ad <| SW.au <| OWk.G 3 (K42 p1 p0 [(5, Z18 y4)]) <| OWk.D ?_
      cases h
      exact ⟨(IntKind.wrap .i64 (y4 + 1)), rfl, by kernel_rfl⟩
    ·replace h := ao hc h
     refine SW.K [] <| SW.exit <| aJ ?_
     cases h
     refine aJ ?_
     exact ⟨_, rfl, .inl ⟨(), rfl, rfl, rfl⟩⟩
   ·rintro _ _ (⟨v8, rfl, rfl, rfl⟩ | ⟨r9, rfl, rfl, hE⟩)
    ·replace h := dO h
     refine aT <| ad <| SW.R 1 [(4, vB true)] <| SW.ret ?_
     cases h
     exact aA.ret [] (by kernel_rfl) rfl
    ·replace h := dN h
     refine ax <| af ?_
     cases h
     exact hE
 ·refine SW.au <| OWk.G 1 (K42 p1 p0 [(6, Z13 p1)]) ?_
  obtain ⟨r3, hr, h⟩ := aa h
  refine OWk.C0 (some 7) (K42 p1 p0 [(7, vB r3)]) (od hr) <| OWk.G 2 (K42 p1 p0 [(9, vB (!r3))]) ?_
  refine OWk.case (!r3) (fun b => (sp 34 (K42 p1 p0 [(9, vB b)]) H)) (by kernel_rfl) (fun hc => ?_) (fun hc => ?_)
  ·replace h := an hc h
   refine OWk.G 7 (K42 p1 p0 [(16, vB true)]) <| OWk.D ?_
   exact ⟨true, [], by kernel_rfl, h⟩
  ·replace h := ao hc h
   refine OWk.G 1 (K42 p1 p0 [(9, vB false), (10, Z13 p1)]) <| OWk.O (d := some 11) (K42 p1 p0 [(9, vB false), (11, vI (p1.length : Int))]) (BAt.len (enc := ag) (xs := p1) (by kernel_rfl)) <| OWk.G 2 (K42 p1 p0 [(9, vB false), (11, vI (p1.length : Int)), (13, Z24 p0)]) <| OWk.O (d := some 14) (K42 p1 p0 [(9, vB false), (11, vI (p1.length : Int)), (14, Z37 p0)]) (BAt.len (enc := (D.int .i64)) (xs := p0.aq) (by kernel_rfl)) <| OWk.G 2 (K42 p1 p0 [(16, Z56 p1 p0)]) <| OWk.D ?_
   exact ⟨((p1.length : Int) != (p0.aq.length : Int)), [], by kernel_rfl, h⟩
def vt (fuel : Nat) (p0 : Int) : Option (Bool) :=
 some ((decide (p0 ≥ 1)) && (decide (p0 ≤ 1000000)))
theorem xr {fuel : Nat} {p0 : Int} {r : Bool} (h : vt fuel p0 = some r) : PC Try.prog 48 [vI p0] (vB r) := by
 refine PC.br Try.func48 rfl fun H => ?_
 unfold vt at h
 refine SW.kp 9 H [0] [(0, vI p0)] (by kernel_rfl) <| SW.R 1 [(0, vI p0)] <| SW.S <| OWk.G 3 [(0, vI p0), (5, vB (decide (p0 ≥ 1)))] <| OWk.M 3 (decide (p0 ≥ 1)) (fun b => [(0, vI p0), (5, vB b)]) (fun b => [(8, vB (b && (decide (p0 ≤ 1000000))))]) <| OWk.G 1 [(2, Z71 p0)] <| OWk.E <| SW.ret ?_
 cases h
 exact aA.ret [] (by kernel_rfl) rfl
def ma (fuel : Nat) (p0 : ah) (p1 : Entry) : Option (Bool) :=
 (sN fuel p0 p1.Row).bind fun r1 =>
 bif r1 then
  (vt fuel p1.Key).bind fun r2 =>
  some (r2 && (decide (p1.Number ≥ 1)))
 else
  some false
def Dt (x0 : Bool) (x1 : Entry) : SV := vB (x0 && (decide (x1.Number ≥ 1)))
theorem uz {fuel : Nat} {p0 : ah} {p1 : Entry} {r : Bool} (h : ma fuel p0 p1 = some r) : PC Try.prog 23 [.d (bo p0), .d (ab p1)] (vB r) := by
 refine PC.br Try.func23 rfl fun H => ?_
 unfold ma at h
 refine SW.kp 19 H [0, 1] [(0, Z23 p0), (1, Z77 p1)] (by kernel_rfl) <| SW.R 1 [(2, Z1 p0), (3, Z76 p1)] <| SW.S <| OWk.G 3 [(3, Z76 p1), (5, Z23 p0), (7, Z84 p1)] ?_
 obtain ⟨r1, hr, h⟩ := aa h
 refine OWk.C0 (some 8) [(3, Z76 p1), (8, vB r1)] (xt hr) <| OWk.G 1 [(3, Z76 p1), (9, vB r1)] ?_
 refine OWk.case r1 (fun b => (sp 19 [(3, Z76 p1), (9, vB b)] H)) (by kernel_rfl) (fun hc => ?_) (fun hc => ?_)
 ·replace h := an hc h
  refine OWk.G 2 [(3, Z76 p1), (9, vB true), (11, vI p1.Key)] ?_
  obtain ⟨r2, hr, h⟩ := aa h
  refine OWk.C0 (some 12) [(3, Z76 p1), (9, vB true), (12, vB r2)] (xr hr) <| OWk.G 2 [(3, Z76 p1), (14, vB r2)] <| OWk.M 4 r2 (fun b => [(3, Z76 p1), (14, vB b)]) (fun b => [(18, vB (b && (decide (p1.Number ≥ 1))))]) <| OWk.G 1 [(4, Dt r2 p1)] <| OWk.E <| SW.ret ?_
  cases h
  exact aA.ret [] (by kernel_rfl) rfl
 ·replace h := ao hc h
  refine OWk.G 10 [(4, vB false)] <| OWk.E <| SW.ret ?_
  cases h
  exact aA.ret [] (by kernel_rfl) rfl
def aE (fuel : Nat) (p0 : Nat) (p1 : Int) (H : Hp) : Option ((Bool) × Hp) :=
 (dA (cI .i64) H p0 8 p1).bind fun H1 =>
 some (false, H1)
theorem aU {fuel : Nat} {p0 : Nat} {p1 : Int} {H : Hp} {r : (Bool) × Hp} (h : aE fuel p0 p1 H = some r) : SC Try.prog false 51 [.d (.ptr p0 0), vI p1] H (vB r.1) r.2 := by
 refine SC.ga Try.func51 rfl ?_
 unfold aE at h
 refine SW.kp 9 H [0, 1] (K3 p0 p1 []) (by kernel_rfl) <| SW.R 1 (K3 p0 p1 []) <| SW.S <| OWk.G 4 [(6, vI p1), (8, .d (.ptr p0 8))] ?_
 obtain ⟨H1, hx, h⟩ := aa h
 refine OWk.hst 9 H1 [] [] hx (by kernel_rfl) (by kernel_rfl) <| OWk.E <| SW.R 1 [(4, vB false)] <| SW.ret ?_
 cases h
 exact aA.ret [] (by kernel_rfl) rfl
def h9 (fuel : Nat) (p0 : Int) (p1 : Int) : Option (Int) :=
 bif (decide (p0 < p1)) then
  some (-1)
 else
  bif (decide (p0 > p1)) then
   some 1
  else
   some 0
def AR (x0 : Nat) (x1 : (List Int)) : SV := .bf (.ai x0 7) 1 (List.map (D.int .i64) x1)
def Ds (x0 : Int × Hp) (x1 : (List Int)) : SV := vB (decide (x0.1 < (x1.length : Int)))
def qo (x0 : ((List Int) × Hp)) : SV := .own 1 (List.map (D.int .i64) x0.1)
def qa (x0 : Entry) : SV := .own 1 (List.map (D.int .i64) [x0.Number])
def wU (x0 : ((List Int) × Hp)) (x1 : Entry) : SV := .own 1 (List.map (D.int .i64) (x0.1 ++ [x1.Number]))
def B0 (x0 : Int × (List Entry) × (List Int) × Int × Hp) : SV := vB (decide (x0.2.2.2.1 < (x0.2.1.length : Int)))
def BZ (x0 : Int × (List Entry) × (List Int) × Int × Hp) : SV := vI (x0.2.1.length : Int)
def zI (x0 : Int × (List Entry) × (List Int) × Hp) : SV := .box [vI x0.1, .d (.list 3 (List.map ab x0.2.1)), .d (.list 1 (List.map (D.int .i64) x0.2.2.1))]
def wT (x0 : Int × (List Entry) × (List Int) × Hp) : SV := .d (.list 3 (List.map ab x0.2.1))
def wS (x0 : Int × (List Entry) × (List Int) × Hp) : SV := vI (x0.2.1.length : Int)
def kF (x0 : Entry) : SV := .d (.aR [.list 3 (List.map ag x0.Row), .int .i64 x0.Key, .int .i64 x0.Number])
theorem jY {fuel : Nat} {p0 : Int} {p1 : Int} {r : Int} (h : h9 fuel p0 p1 = some r) : PC Try.prog 85 [vI p0, vI p1] (vI r) := by
 refine PC.br Try.func85 rfl fun H => ?_
 unfold h9 at h
 refine SW.kp 13 H [0, 1] [(0, vI p0), (1, vI p1)] (by kernel_rfl) <| SW.R 1 [(0, vI p0), (1, vI p1)] <| SW.seq <| SW.block <| SW.R 1 [(0, vI p0), (1, vI p1), (5, vB (decide (p0 < p1)))] ?_
 refine SW.B (decide (p0 < p1)) (fun hc => ?_) (fun hc => ?_)
 ·replace h := an hc h
  refine SW.R 1 [(4, vI (-1))] <| SW.ret <| ax <| af ?_
  cases h
  exact aA.ret [] (by kernel_rfl) rfl
 ·replace h := ao hc h
  refine SW.R 1 [(9, vB (decide (p0 > p1)))] ?_
  refine SW.B (decide (p0 > p1)) (fun hc => ?_) (fun hc => ?_)
  ·replace h := an hc h
   refine SW.R 1 [(4, vI 1)] <| SW.ret <| ax <| af ?_
   cases h
   exact aA.ret [] (by kernel_rfl) rfl
  ·replace h := ao hc h
   refine SW.skip <| aH <| ad <| SW.R 1 [(4, vI 0)] <| SW.ret ?_
   cases h
   exact aA.ret [] (by kernel_rfl) rfl
def iZ (fuel : Nat) (p0 : Int) : Option (Int) :=
 bif (decide (p0 < 0)) then
  some (-1)
 else
  bif (decide (p0 > 0)) then
   some 1
  else
   some 0
def BY (x0 : UInt8) : SV := .d (.int .u8 (x0.toNat : Int))
def Dr (x0 : UInt8) (x1 : UInt8) : SV := vB ((x0.toNat : Int) != (x1.toNat : Int))
def BX (x0 : UInt8) : SV := vI (IntKind.wrap .i64 (x0.toNat : Int))
def Dq (x0 : UInt8) (x1 : UInt8) : SV := vI (IntKind.wrap .i64 ((IntKind.wrap .i64 (x0.toNat : Int)) - (IntKind.wrap .i64 (x1.toNat : Int))))
theorem nC {fuel : Nat} {p0 : Int} {r : Int} (h : iZ fuel p0 = some r) : PC Try.prog 94 [vI p0] (vI r) := by
 refine PC.br Try.func94 rfl fun H => ?_
 unfold iZ at h
 refine SW.kp 9 H [0] [(0, vI p0)] (by kernel_rfl) <| SW.R 1 [(0, vI p0)] <| SW.seq <| SW.block <| SW.R 1 [(0, vI p0), (3, vB (decide (p0 < 0)))] ?_
 refine SW.B (decide (p0 < 0)) (fun hc => ?_) (fun hc => ?_)
 ·replace h := an hc h
  refine SW.R 1 [(2, vI (-1))] <| SW.ret <| ax <| af ?_
  cases h
  exact aA.ret [] (by kernel_rfl) rfl
 ·replace h := ao hc h
  refine SW.R 1 [(6, vB (decide (p0 > 0)))] ?_
  refine SW.B (decide (p0 > 0)) (fun hc => ?_) (fun hc => ?_)
  ·replace h := an hc h
   refine SW.R 1 [(2, vI 1)] <| SW.ret <| ax <| af ?_
   cases h
   exact aA.ret [] (by kernel_rfl) rfl
  ·replace h := ao hc h
   refine SW.skip <| aH <| ad <| SW.R 1 [(2, vI 0)] <| SW.ret ?_
   cases h
   exact aA.ret [] (by kernel_rfl) rfl
def fF (fuel : Nat) (p0 : (List UInt8)) (p1 : (List UInt8)) (y1 : Int) : Option ((Int) ⊕ ((Unit) ⊕ ((Int)))) :=
 aX (fun (j2 : Bool) =>
  bif j2 then
   (idx p0 y1).bind fun b4 =>
   (idx p1 y1).bind fun b5 =>
   bif ((b4.toNat : Int) != (b5.toNat : Int)) then
    (idx p0 y1).bind fun b6 =>
    (idx p1 y1).bind fun b7 =>
    (iZ fuel (IntKind.wrap .i64 ((IntKind.wrap .i64 (b6.toNat : Int)) - (IntKind.wrap .i64 (b7.toNat : Int))))).bind fun r8 =>
    some (.inr (.inr r8))
   else
    some (.inl (IntKind.wrap .i64 (y1 + 1)))
  else
   some (.inr (.inl ()))) fun jp3 =>
 bif (decide (y1 < (p0.length : Int))) then
  jp3 (decide (y1 < (p1.length : Int)))
 else
  jp3 false
def iY (fuel : Nat) (p0 : (List UInt8)) (p1 : (List UInt8)) : Option (Int) :=
 (iter (fF fuel p0 p1) fuel 0).bind (Sum.elim (fun v10 =>
  (iZ fuel (IntKind.wrap .i64 ((p0.length : Int) - (p1.length : Int)))).bind fun r11 =>
  some r11) (fun r12 =>
  some r12))
def BW (x0 : Int) (x1 : (List UInt8)) : SV := vB (decide (x0 < (x1.length : Int)))
def Dp (x0 : (List UInt8)) (x1 : (List UInt8)) : SV := vI (IntKind.wrap .i64 ((x0.length : Int) - (x1.length : Int)))
def K55 := fun a0 a1 a2 (t : SL) => ((0, vS a0) :: (1, vS a1) :: (5, vI a2) :: t : SL)
theorem rG {fuel : Nat} {p0 : (List UInt8)} {p1 : (List UInt8)} {r : Int} (h : iY fuel p0 p1 = some r) : PC Try.prog 86 [vS p0, vS p1] (vI r) := by
 refine PC.br Try.func86 rfl fun H => ?_
 unfold iY at h
 refine SW.kp 41 H [0, 1] [(0, vS p0), (1, vS p1)] (by kernel_rfl) <| SW.R 1 [(0, vS p0), (1, vS p1)] <| SW.seq <| SW.R 1 [(0, vS p0), (1, vS p1), (5, vI 0)] <| SW.block ?_
 obtain ⟨z9, hit, h⟩ := aa h
 refine SW.it 41 H [0, 1, 5] (fun y1 => (K55 p0 p1 y1 [])) (fun b e s => ((∃ v10, b = (.inl v10) ∧ (e = .exit 0 ∧ s = (sp 41 [(0, vS p0), (1, vS p1)] H))) ∨ (∃ r12, b = (.inr r12) ∧ (e = .ret ∧ aA Try.prog Try.f86.results.toList H (vI r12) .ret s)))) hit (by kernel_rfl) (fun y1 o h => ?_) ?_
 ·unfold fF at h
  refine SW.seq ?_
  obtain ⟨jp3, hjjp3, h⟩ := bt h
  refine SW.jn 41 H [0, 1, 5, 15] (fun (j2 : Bool) => (K55 p0 p1 y1 [(15, vB j2)])) (fun v => jp3 v = some o) (fun j2 h => ?_) ?_
  ·rw [hjjp3] at h
   refine SW.B j2 (fun hc => ?_) (fun hc => ?_)
   ·replace h := an hc h
    refine SW.skip <| ad <| SW.seq <| SW.block <| SW.seq <| SW.gz (by kernel_rfl) (by kernel_rfl) <| OBk.G 2 (K55 p0 p1 y1 [(18, vS p0), (19, vI y1)]) ?_
    obtain ⟨b4, hx, h⟩ := aa h
    refine OBk.O (d := some 20) (K55 p0 p1 y1 [(20, .d (.int .u8 (b4.toNat : Int)))]) (BAt.rS hx (by kernel_rfl)) <| OBk.G 2 (K55 p0 p1 y1 [(20, BY b4), (21, vS p1), (22, vI y1)]) ?_
    obtain ⟨b5, hx, h⟩ := aa h
    refine OBk.O (d := some 23) (K55 p0 p1 y1 [(20, BY b4), (23, .d (.int .u8 (b5.toNat : Int)))]) (BAt.rS hx (by kernel_rfl)) <| OBk.G 1 (K55 p0 p1 y1 [(24, Dr b4 b5)]) <| OBk.done (by kernel_rfl) <| ad ?_
    refine SW.B ((b4.toNat : Int) != (b5.toNat : Int)) (fun hc => ?_) (fun hc => ?_)
    ·replace h := an hc h
     refine SW.seq <| SW.cw (by kernel_rfl) (by kernel_rfl) <| OQk.G 2 [(1, vS p1), (5, vI y1), (25, vS p0), (26, vI y1)] ?_
     obtain ⟨b6, hx, h⟩ := aa h
     refine OQk.on 41 H (d := some 27) [1, 5, 27] [(1, vS p1), (5, vI y1), (27, .d (.int .u8 (b6.toNat : Int)))] (BAt.rS hx (by kernel_rfl)) (by kernel_rfl) <| OQk.G 3 [(28, BX b6), (29, vS p1), (30, vI y1)] ?_
     obtain ⟨b7, hx, h⟩ := aa h
     refine OQk.on 41 H (d := some 31) [28, 31] [(28, BX b6), (31, .d (.int .u8 (b7.toNat : Int)))] (BAt.rS hx (by kernel_rfl)) (by kernel_rfl) <| OQk.G 2 [(33, Dq b6 b7)] ?_
     obtain ⟨r8, hr, h⟩ := aa h
     refine OQk.cl 41 H (d := some 34) (ls := []) [34] [(34, vI r8)] (nC hr) (by kernel_rfl) (by kernel_rfl) (by kernel_rfl) <| OQk.G 1 [(4, vI r8)] <| OQk.done (by kernel_rfl) <| ad <| SW.ret <| ax <| af ?_
     cases h
     refine af ?_
     exact ⟨_, rfl, .inr (⟨r8, rfl, rfl, aA.ret [] (by kernel_rfl) rfl⟩)⟩
    ·replace h := ao hc h
     refine SW.skip <| aH <| ad <| SW.au <| OWk.G 3 [(0, vS p0), (1, vS p1), (5, Z18 y1)] <| OWk.D ?_
     cases h
     exact ⟨(IntKind.wrap .i64 (y1 + 1)), rfl, by kernel_rfl⟩
   ·replace h := ao hc h
    refine SW.K [(0, vS p0), (1, vS p1)] <| SW.exit <| aJ ?_
    cases h
    refine aJ ?_
    exact ⟨_, rfl, .inl ⟨(), rfl, rfl, rfl⟩⟩
  ·refine SW.au <| OWk.G 2 (K55 p0 p1 y1 [(6, vI y1), (7, vS p0)]) <| OWk.G 1 (K55 p0 p1 y1 [(6, vI y1), (8, vI (p0.length : Int))]) <| OWk.G 2 (K55 p0 p1 y1 [(10, BW y1 p0)]) ?_
   refine OWk.case (decide (y1 < (p0.length : Int))) (fun b => (sp 41 (K55 p0 p1 y1 [(10, vB b)]) H)) (by kernel_rfl) (fun hc => ?_) (fun hc => ?_)
   ·replace h := an hc h
    refine OWk.G 2 (K55 p0 p1 y1 [(10, vB true), (11, vI y1), (12, vS p1)]) <| OWk.G 1 (K55 p0 p1 y1 [(10, vB true), (11, vI y1), (13, vI (p1.length : Int))]) <| OWk.G 2 (K55 p0 p1 y1 [(15, BW y1 p1)]) <| OWk.D ?_
    exact ⟨(decide (y1 < (p1.length : Int))), [], by kernel_rfl, h⟩
   ·replace h := ao hc h
    refine OWk.G 5 (K55 p0 p1 y1 [(15, vB false)]) <| OWk.D ?_
    exact ⟨false, [], by kernel_rfl, h⟩
 ·rintro _ _ (⟨v10, rfl, rfl, rfl⟩ | ⟨r12, rfl, rfl, hE⟩)
  ·replace h := dO h
   refine aT <| ad <| SW.S <| OWk.G 1 [(1, vS p1), (35, vS p0)] <| OWk.G 1 [(1, vS p1), (36, vI (p0.length : Int))] <| OWk.G 1 [(36, vI (p0.length : Int)), (37, vS p1)] <| OWk.G 1 [(36, vI (p0.length : Int)), (38, vI (p1.length : Int))] <| OWk.G 1 [(39, Dp p0 p1)] ?_
   obtain ⟨r11, hr, h⟩ := aa h
   refine OWk.C0 (some 40) [(40, vI r11)] (nC hr) <| OWk.G 1 [(4, vI r11)] <| OWk.E <| SW.ret ?_
   cases h
   exact aA.ret [] (by kernel_rfl) rfl
  ·replace h := dN h
   refine ax <| af ?_
   cases h
   exact hE
def eY (fuel : Nat) (p0 : Value) (p1 : Value) : Option (Int) :=
 (h9 fuel p0.Kind p1.Kind).bind fun r1 =>
 bif (r1 != 0) then
  some r1
 else
  (h9 fuel p0.N p1.N).bind fun r2 =>
  bif (r2 != 0) then
   some r2
  else
   (iY fuel p0.S p1.S).bind fun r3 =>
   some r3
theorem j5 {fuel : Nat} {p0 : Value} {p1 : Value} {r : Int} (h : eY fuel p0 p1 = some r) : PC Try.prog 66 [.d (ag p0), .d (ag p1)] (vI r) := by
 refine PC.br Try.func66 rfl fun H => ?_
 unfold eY at h
 refine SW.kp 28 H [0, 1] [(0, Z58 p0), (1, Z58 p1)] (by kernel_rfl) <| SW.R 1 (K90 p0 p1 []) <| SW.seq <| SW.S <| OWk.G 4 (K90 p0 p1 [(8, vI p0.Kind), (10, vI p1.Kind)]) ?_
 obtain ⟨r1, hr, h⟩ := aa h
 refine OWk.C0 (some 11) (K90 p0 p1 [(11, vI r1)]) (jY hr) <| OWk.G 1 (K90 p0 p1 [(5, vI r1)]) <| OWk.E <| SW.R 1 (K90 p0 p1 [(5, vI r1), (13, vB (r1 != 0))]) ?_
 refine SW.B (r1 != 0) (fun hc => ?_) (fun hc => ?_)
 ·replace h := an hc h
  refine SW.R 1 [(4, vI r1)] <| SW.ret <| af ?_
  cases h
  exact aA.ret [] (by kernel_rfl) rfl
 ·replace h := ao hc h
  refine SW.skip <| ad <| SW.seq <| SW.S <| OWk.G 4 (K90 p0 p1 [(16, vI p0.N), (18, vI p1.N)]) ?_
  obtain ⟨r2, hr, h⟩ := aa h
  refine OWk.C0 (some 19) (K90 p0 p1 [(19, vI r2)]) (jY hr) <| OWk.G 1 (K90 p0 p1 [(6, vI r2)]) <| OWk.E <| SW.R 1 (K90 p0 p1 [(6, vI r2), (21, vB (r2 != 0))]) ?_
  refine SW.B (r2 != 0) (fun hc => ?_) (fun hc => ?_)
  ·replace h := an hc h
   refine SW.R 1 [(4, vI r2)] <| SW.ret <| af ?_
   cases h
   exact aA.ret [] (by kernel_rfl) rfl
  ·replace h := ao hc h
   refine SW.skip <| ad <| SW.S <| OWk.G 4 [(24, vS p0.S), (26, vS p1.S)] ?_
   obtain ⟨r3, hr, h⟩ := aa h
   refine OWk.C0 (some 27) [(27, vI r3)] (rG hr) <| OWk.G 1 [(4, vI r3)] <| OWk.E <| SW.ret ?_
   cases h
   exact aA.ret [] (by kernel_rfl) rfl
def hZ (fuel : Nat) (p0 : ah) (p1 : (List Value)) (p2 : (List Value)) (y1 : Int) : Option ((Int) ⊕ ((Unit) ⊕ ((Int)))) :=
 bif (decide (y1 < (p1.length : Int))) then
  (idx p1 y1).bind fun x2 =>
  (idx p2 y1).bind fun x3 =>
  (eY fuel x2 x3).bind fun r4 =>
  (idx p0.Down y1).bind fun x5 =>
  bif x5 then
   bif ((IntKind.wrap .i64 (0 - r4)) != 0) then
    some (.inr (.inr (IntKind.wrap .i64 (0 - r4))))
   else
    some (.inl (IntKind.wrap .i64 (y1 + 1)))
  else
   bif (r4 != 0) then
    some (.inr (.inr r4))
   else
    some (.inl (IntKind.wrap .i64 (y1 + 1)))
 else
  some (.inr (.inl ()))
def kR (fuel : Nat) (p0 : ah) (p1 : (List Value)) (p2 : (List Value)) : Option (Int) :=
 (iter (hZ fuel p0 p1 p2) fuel 0).bind (Sum.elim (fun v7 =>
  some 0) (fun r8 =>
  some r8))
def AQ (x0 : Int) : SV := vI (IntKind.wrap .i64 (0 - x0))
def Dm (x0 : Int) : SV := vB ((IntKind.wrap .i64 (0 - x0)) != 0)
theorem pe {fuel : Nat} {p0 : ah} {p1 : (List Value)} {p2 : (List Value)} {r : Int} (h : kR fuel p0 p1 p2 = some r) : PC Try.prog 49 [.d (bo p0), .d (.list 3 (List.map ag p1)), .d (.list 3 (List.map ag p2))] (vI r) := by
 refine PC.br Try.func49 rfl fun H => ?_
 unfold kR at h
 refine SW.kp 34 H [0, 1, 2] [(0, Z23 p0), (1, Z13 p1), (2, Z13 p2)] (by kernel_rfl) <| SW.R 1 (K11 p1 p2 p0 []) <| SW.seq <| SW.R 1 (K11 p1 p2 p0 [(7, vI 0)]) <| SW.block ?_
 obtain ⟨z6, hit, h⟩ := aa h
 refine SW.it 34 H [1, 2, 3, 7] (fun y1 => (K11 p1 p2 p0 [(7, vI y1)])) (fun b e s => ((∃ v7, b = (.inl v7) ∧ (e = .exit 0 ∧ s = (sp 34 [] H))) ∨ (∃ r8, b = (.inr r8) ∧ (e = .ret ∧ aA Try.prog Try.f49.results.toList H (vI r8) .ret s)))) hit (by kernel_rfl) (fun y1 o h => ?_) ?_
 ·unfold hZ at h
  refine SW.seq <| SW.S <| OWk.G 2 (K11 p1 p2 p0 [(7, vI y1), (9, vI y1), (10, Z13 p1)]) <| OWk.O (d := some 11) (K11 p1 p2 p0 [(7, vI y1), (9, vI y1), (11, vI (p1.length : Int))]) (BAt.len (enc := ag) (xs := p1) (by kernel_rfl)) <| OWk.G 1 (K11 p1 p2 p0 [(7, vI y1), (12, Z17 y1 p1)]) <| OWk.E ?_
  refine SW.B (decide (y1 < (p1.length : Int))) (fun hc => ?_) (fun hc => ?_)
  ·replace h := an hc h
   refine SW.skip <| ad <| SW.seq <| SW.block <| SW.seq <| SW.cw (by kernel_rfl) (by kernel_rfl) <| OQk.G 2 (K11 p1 p2 p0 [(7, vI y1), (15, Z13 p1), (16, vI y1)]) ?_
   obtain ⟨x2, hx, h⟩ := aa h
   refine OQk.on 34 H (d := some 17) (s := aO none (Go.Sh.D.cells (ag x2))) [1, 2, 3, 7, 17] (K11 p1 p2 p0 [(7, vI y1), (17, .d (.aR [.int .i64 x2.Kind, .int .i64 x2.N, .str x2.S]))]) (BAt.index (n := 3) hx (by kernel_rfl)) (by kernel_rfl) <| OQk.G 3 (K11 p1 p2 p0 [(7, vI y1), (18, Z58 x2), (19, Z13 p2), (20, vI y1)]) ?_
   obtain ⟨x3, hx, h⟩ := aa h
   refine OQk.on 34 H (d := some 21) (s := aO none (Go.Sh.D.cells (ag x3))) [1, 2, 3, 7, 18, 21] (K11 p1 p2 p0 [(7, vI y1), (18, Z58 x2), (21, .d (.aR [.int .i64 x3.Kind, .int .i64 x3.N, .str x3.S]))]) (BAt.index (n := 3) hx (by kernel_rfl)) (by kernel_rfl) <| OQk.G 1 (K11 p1 p2 p0 [(7, vI y1), (18, Z58 x2), (22, Z58 x3)]) ?_
   obtain ⟨r4, hr, h⟩ := aa h
   refine OQk.cl 34 H (d := some 23) (ls := []) [1, 2, 3, 7, 23] (K11 p1 p2 p0 [(7, vI y1), (23, vI r4)]) (j5 hr) (by kernel_rfl) (by kernel_rfl) (by kernel_rfl) <| OQk.G 1 (K11 p1 p2 p0 [(7, vI y1), (8, vI r4)]) <| OQk.done (by kernel_rfl) <| ad <| SW.seq <| SW.S <| OWk.G 3 (K11 p1 p2 p0 [(7, vI y1), (8, vI r4), (25, Z27 p0), (26, vI y1)]) ?_
   obtain ⟨x5, hx, h⟩ := aa h
   refine OWk.O (d := some 27) (s := aO none (Go.Sh.D.cells (D.bool x5))) (K11 p1 p2 p0 [(7, vI y1), (8, vI r4), (27, .d (.aR [.bool x5]))]) (BAt.index (n := 1) hx (by kernel_rfl)) <| OWk.G 1 (K11 p1 p2 p0 [(7, vI y1), (8, vI r4), (28, vB x5)]) <| OWk.E ?_
   refine SW.B x5 (fun hc => ?_) (fun hc => ?_)
   ·replace h := an hc h
    refine SW.au <| OWk.G 3 (K11 p1 p2 p0 [(7, vI y1), (8, AQ r4)]) <| OWk.E <| SW.R 1 (K11 p1 p2 p0 [(7, vI y1), (8, AQ r4), (32, Dm r4)]) ?_
    refine SW.B ((IntKind.wrap .i64 (0 - r4)) != 0) (fun hc => ?_) (fun hc => ?_)
    ·replace h := an hc h
     refine SW.R 1 [(6, AQ r4)] <| SW.ret <| ax <| af ?_
     cases h
     refine af ?_
     exact ⟨_, rfl, .inr (⟨(IntKind.wrap .i64 (0 - r4)), rfl, rfl, aA.ret [] (by kernel_rfl) rfl⟩)⟩
    ·replace h := ao hc h
     refine SW.skip <| aH <| ad <| SW.au <| OWk.G 3 (K11 p1 p2 p0 [(7, Z18 y1)]) <| OWk.D ?_
     cases h
     exact ⟨(IntKind.wrap .i64 (y1 + 1)), rfl, by kernel_rfl⟩
   ·replace h := ao hc h
    refine SW.skip <| ad <| SW.R 1 (K11 p1 p2 p0 [(7, vI y1), (8, vI r4), (32, vB (r4 != 0))]) ?_
    refine SW.B (r4 != 0) (fun hc => ?_) (fun hc => ?_)
    ·replace h := an hc h
     refine SW.R 1 [(6, vI r4)] <| SW.ret <| ax <| af ?_
     cases h
     refine af ?_
     exact ⟨_, rfl, .inr (⟨r4, rfl, rfl, aA.ret [] (by kernel_rfl) rfl⟩)⟩
    ·replace h := ao hc h
     refine SW.skip <| aH <| ad <| SW.au <| OWk.G 3 (K11 p1 p2 p0 [(7, Z18 y1)]) <| OWk.D ?_
     cases h
     exact ⟨(IntKind.wrap .i64 (y1 + 1)), rfl, by kernel_rfl⟩
  ·replace h := ao hc h
   refine SW.K [] <| SW.exit <| aJ ?_
   cases h
   refine aJ ?_
   exact ⟨_, rfl, .inl ⟨(), rfl, rfl, rfl⟩⟩
 ·rintro _ _ (⟨v7, rfl, rfl, rfl⟩ | ⟨r8, rfl, rfl, hE⟩)
  ·replace h := dO h
   refine aT <| ad <| SW.R 1 [(6, vI 0)] <| SW.ret ?_
   cases h
   exact aA.ret [] (by kernel_rfl) rfl
  ·replace h := dN h
   refine ax <| af ?_
   cases h
   exact hE
def jX (fuel : Nat) (p0 : ah) (p1 : Entry) (p2 : Entry) : Option (Bool) :=
 (kR fuel p0 p1.Row p2.Row).bind fun r1 =>
 bif (r1 != 0) then
  some (decide (r1 < 0))
 else
  bif (p0.Dup == 2) then
   some (decide (p1.Number > p2.Number))
  else
   some (decide (p1.Number < p2.Number))
def Dl (x0 : Entry) (x1 : Entry) : SV := vB (decide (x0.Number > x1.Number))
def Dk (x0 : Entry) (x1 : Entry) : SV := vB (decide (x0.Number < x1.Number))
theorem sO {fuel : Nat} {p0 : ah} {p1 : Entry} {p2 : Entry} {r : Bool} (h : jX fuel p0 p1 p2 = some r) : PC Try.prog 24 [.d (bo p0), .d (ab p1), .d (ab p2)] (vB r) := by
 refine PC.br Try.func24 rfl fun H => ?_
 unfold jX at h
 refine SW.kp 31 H [0, 1, 2] [(0, Z23 p0), (1, Z77 p1), (2, Z77 p2)] (by kernel_rfl) <| SW.R 1 (K72 p0 p1 p2 []) <| SW.seq <| SW.S <| OWk.G 5 (K72 p0 p1 p2 [(8, Z23 p0), (10, Z84 p1), (12, Z84 p2)]) ?_
 obtain ⟨r1, hr, h⟩ := aa h
 refine OWk.C0 (some 13) (K72 p0 p1 p2 [(13, vI r1)]) (pe hr) <| OWk.G 1 (K72 p0 p1 p2 [(7, vI r1)]) <| OWk.E <| SW.R 1 (K72 p0 p1 p2 [(7, vI r1), (15, vB (r1 != 0))]) ?_
 refine SW.B (r1 != 0) (fun hc => ?_) (fun hc => ?_)
 ·replace h := an hc h
  refine SW.R 1 [(6, vB (decide (r1 < 0)))] <| SW.ret <| af ?_
  cases h
  exact aA.ret [] (by kernel_rfl) rfl
 ·replace h := ao hc h
  refine SW.skip <| ad <| SW.seq <| SW.R 1 [(4, Z76 p1), (5, Z76 p2), (20, vB (p0.Dup == 2))] ?_
  refine SW.B (p0.Dup == 2) (fun hc => ?_) (fun hc => ?_)
  ·replace h := an hc h
   refine SW.R 1 [(6, Dl p1 p2)] <| SW.ret <| af ?_
   cases h
   exact aA.ret [] (by kernel_rfl) rfl
  ·replace h := ao hc h
   refine SW.skip <| ad <| SW.R 1 [(6, Dk p1 p2)] <| SW.ret ?_
   cases h
   exact aA.ret [] (by kernel_rfl) rfl
def bc (fuel : Nat) (p0 : Nat) (p1 : Entry) (p2 : Entry) (H : Hp) : Option (Bool) :=
 (bg bu.cells H p0 0).bind fun x1 =>
 (jX fuel x1 p1 p2).bind fun r2 =>
 bif r2 then
  (bg (cI .i64).cell H p0 2).bind fun x3 =>
  bif (x3 != 1) then
   some true
  else
   (bg bu.cells H p0 0).bind fun x4 =>
   (kR fuel x4 p1.Row p2.Row).bind fun r5 =>
   some (r5 != 0)
 else
  some false
theorem b8 {fuel : Nat} {p0 : Nat} {p1 : Entry} {p2 : Entry} {H : Hp} {r : Bool} (h : bc fuel p0 p1 p2 H = some r) : SC Try.prog true 52 [.d (.ptr p0 0), .d (ab p1), .d (ab p2)] H (vB r) H := by
 refine SC.gL Try.func52 rfl ?_
 unfold bc at h
 refine SW.kp 34 H [0, 1, 2] [(0, .d (.ptr p0 0)), (1, Z77 p1), (2, Z77 p2)] (by kernel_rfl) <| SW.R 1 (K18 p0 p1 p2 []) <| SW.seq <| SW.cw (by kernel_rfl) (by kernel_rfl) <| OQk.G 3 (K18 p0 p1 p2 [(9, .d (.ptr p0 0))]) ?_
 obtain ⟨x1, hx, h⟩ := aa h
 refine OQk.on 34 H (d := some 10) (s := .d (.agg [.list 1 (List.map (D.int .i64) x1.aq), .list 1 (List.map D.bool x1.Down), .int .i64 x1.Dup])) [0, 4, 5, 10] (K18 p0 p1 p2 [(10, Z23 x1)]) (BAt.ldH (c := bu.cells) hx (by kernel_rfl)) (by kernel_rfl) <| OQk.G 2 (K18 p0 p1 p2 [(10, Z23 x1), (11, Z77 p1), (12, Z77 p2)]) ?_
 obtain ⟨r2, hr, h⟩ := aa h
 refine OQk.cl 34 H (d := some 13) (ls := []) [0, 4, 5, 13] (K18 p0 p1 p2 [(13, vB r2)]) (sO hr) (by kernel_rfl) (by kernel_rfl) (by kernel_rfl) <| OQk.G 1 (K18 p0 p1 p2 [(14, vB r2)]) ?_
 refine OQk.case r2 (fun b => (sp 34 (K18 p0 p1 p2 [(14, vB b)]) H)) (by kernel_rfl) (fun hc => ?_) (fun hc => ?_)
 ·replace h := an hc h
  refine OQk.G 4 (K18 p0 p1 p2 [(14, vB true), (18, .d (.ptr p0 2))]) ?_
  obtain ⟨x3, hx, h⟩ := aa h
  refine OQk.on 34 H (d := some 19) (s := vI x3) [0, 4, 5, 14, 19] (K18 p0 p1 p2 [(14, vB true), (19, vI x3)]) (BAt.ldH (c := (cI .i64).cell) hx (by kernel_rfl)) (by kernel_rfl) <| OQk.G 2 (K18 p0 p1 p2 [(14, vB true), (21, vB (x3 != 1))]) ?_
  refine OQk.case (x3 != 1) (fun b => (sp 34 (K18 p0 p1 p2 [(14, vB true), (21, vB b)]) H)) (by kernel_rfl) (fun hc => ?_) (fun hc => ?_)
  ·replace h := an hc h
   refine OQk.G 13 [(6, vB true)] <| OQk.done (by kernel_rfl) <| ad <| SW.ret ?_
   cases h
   exact aA.ret [] (by kernel_rfl) rfl
  ·replace h := ao hc h
   refine OQk.G 3 [(4, Z76 p1), (5, Z76 p2), (14, vB true), (21, vB false), (24, .d (.ptr p0 0))] ?_
   obtain ⟨x4, hx, h⟩ := aa h
   refine OQk.on 34 H (d := some 25) (s := .d (.agg [.list 1 (List.map (D.int .i64) x4.aq), .list 1 (List.map D.bool x4.Down), .int .i64 x4.Dup])) [4, 5, 14, 21, 25] [(4, Z76 p1), (5, Z76 p2), (14, vB true), (21, vB false), (25, Z23 x4)] (BAt.ldH (c := bu.cells) hx (by kernel_rfl)) (by kernel_rfl) <| OQk.G 4 [(14, vB true), (21, vB false), (25, Z23 x4), (27, Z84 p1), (29, Z84 p2)] ?_
   obtain ⟨r5, hr, h⟩ := aa h
   refine OQk.cl 34 H (d := some 30) (ls := []) [14, 21, 30] [(14, vB true), (21, vB false), (30, vI r5)] (pe hr) (by kernel_rfl) (by kernel_rfl) (by kernel_rfl) <| OQk.G 4 [(6, vB (r5 != 0))] <| OQk.done (by kernel_rfl) <| ad <| SW.ret ?_
   cases h
   exact aA.ret [] (by kernel_rfl) rfl
 ·replace h := ao hc h
  refine OQk.G 20 [(6, vB false)] <| OQk.done (by kernel_rfl) <| ad <| SW.ret ?_
  cases h
  exact aA.ret [] (by kernel_rfl) rfl
def cg (fuel : Nat) (p0 : Nat) (p1 : Int) (x6 : Entry) (y13 : Int × Hp) : Option ((Int × Hp) ⊕ ((Hp) ⊕ (((Bool) × Hp)))) :=
 (cp 1 (cI .i64) y13.2 p0 7).bind fun x14 =>
 bif (decide (y13.1 < (x14.length : Int))) then
  (cp 1 (cI .i64) y13.2 p0 7).bind fun x15 =>
  (idx x15 y13.1).bind fun x16 =>
  bif (x16 == x6.Number) then
   (aE fuel p0 p1 y13.2).bind fun r17 =>
   some (.inr (.inr (r17.1, r17.2)))
  else
   some (.inl ((IntKind.wrap .i64 (y13.1 + 1)), y13.2))
 else
  some (.inr (.inl y13.2))
def bC (fuel : Nat) (p0 : Nat) (p1 : Int) (y5 : Int × (List Entry) × (List Int) × Int × Hp) : Option ((Int × (List Entry) × (List Int) × Int × Hp) ⊕ ((Int × (List Entry) × (List Int) × Hp) ⊕ (((Bool) × Hp)))) :=
 bif (decide (y5.2.2.2.1 < (y5.2.1.length : Int))) then
  (idx y5.2.1 y5.2.2.2.1).bind fun x6 =>
  aX (fun (j7 : Bool) =>
   bif j7 then
    (aE fuel p0 p1 y5.2.2.2.2).bind fun r12 =>
    some (.inr (.inr (r12.1, r12.2)))
   else
    (iter (cg fuel p0 p1 x6) fuel (0, y5.2.2.2.2)).bind (Sum.elim (fun v19 =>
     (eF 1 (cI .i64) v19 p0 7).bind fun q20 =>
     chk (decide ((q20.1 ++ [x6.Number]).length ≤ room)) <|
     (dB 1 (cI .i64) q20.2 p0 7 (q20.1 ++ [x6.Number])).bind fun H22 =>
     some (.inl (y5.1, y5.2.1, y5.2.2.1, (IntKind.wrap .i64 (y5.2.2.2.1 + 1)), H22))) (fun r23 =>
     some (.inr (.inr r23))))) fun jp8 =>
  (bg bu.cells y5.2.2.2.2 p0 0).bind fun x9 =>
  (ma fuel x9 x6).bind fun r10 =>
  bif (!r10) then
   jp8 true
  else
   (bg (cI .i64).cell y5.2.2.2.2 p0 4).bind fun x11 =>
   jp8 (decide (x6.Number > x11))
 else
  some (.inr (.inl (y5.1, y5.2.1, y5.2.2.1, y5.2.2.2.2)))
def cf (fuel : Nat) (p0 : Nat) (p1 : Int) (p3 : (Option Entry)) (p4 : (Option Entry)) (y26 : Int × (List Entry) × (List Int) × Int × Hp) : Option ((Int × (List Entry) × (List Int) × Int × Hp) ⊕ ((Int × (List Entry) × (List Int) × Hp) ⊕ (((Bool) × Hp)))) :=
 bif (decide (y26.2.2.2.1 < (y26.2.1.length : Int))) then
  (idx y26.2.1 y26.2.2.2.1).bind fun x27 =>
  bif (decide (y26.2.2.2.1 > 0)) then
   (idx y26.2.1 (IntKind.wrap .i64 (y26.2.2.2.1 - 1))).bind fun x28 =>
   (bc fuel p0 x28 x27 y26.2.2.2.2).bind fun r29 =>
   bif (!r29) then
    (aE fuel p0 p1 y26.2.2.2.2).bind fun r30 =>
    some (.inr (.inr (r30.1, r30.2)))
   else
    (Option.elim p3
     ((Option.elim p4
      (some (.inl (y26.1, y26.2.1, y26.2.2.1, (IntKind.wrap .i64 (y26.2.2.2.1 + 1)), y26.2.2.2.2)))
     (fun x32 =>
      (bc fuel p0 x27 x32 y26.2.2.2.2).bind fun r33 =>
      bif (!r33) then
       (aE fuel p0 p1 y26.2.2.2.2).bind fun r34 =>
       some (.inr (.inr (r34.1, r34.2)))
      else
       some (.inl (y26.1, y26.2.1, y26.2.2.1, (IntKind.wrap .i64 (y26.2.2.2.1 + 1)), y26.2.2.2.2)))))
    (fun x31 =>
     (bc fuel p0 x31 x27 y26.2.2.2.2).bind fun r35 =>
     bif (!r35) then
      (aE fuel p0 p1 y26.2.2.2.2).bind fun r36 =>
      some (.inr (.inr (r36.1, r36.2)))
     else
      (Option.elim p4
       (some (.inl (y26.1, y26.2.1, y26.2.2.1, (IntKind.wrap .i64 (y26.2.2.2.1 + 1)), y26.2.2.2.2)))
      (fun x37 =>
       (bc fuel p0 x27 x37 y26.2.2.2.2).bind fun r38 =>
       bif (!r38) then
        (aE fuel p0 p1 y26.2.2.2.2).bind fun r39 =>
        some (.inr (.inr (r39.1, r39.2)))
       else
        some (.inl (y26.1, y26.2.1, y26.2.2.1, (IntKind.wrap .i64 (y26.2.2.2.1 + 1)), y26.2.2.2.2))))))
  else
   (Option.elim p3
    ((Option.elim p4
     (some (.inl (y26.1, y26.2.1, y26.2.2.1, (IntKind.wrap .i64 (y26.2.2.2.1 + 1)), y26.2.2.2.2)))
    (fun x41 =>
     (bc fuel p0 x27 x41 y26.2.2.2.2).bind fun r42 =>
     bif (!r42) then
      (aE fuel p0 p1 y26.2.2.2.2).bind fun r43 =>
      some (.inr (.inr (r43.1, r43.2)))
     else
      some (.inl (y26.1, y26.2.1, y26.2.2.1, (IntKind.wrap .i64 (y26.2.2.2.1 + 1)), y26.2.2.2.2)))))
   (fun x40 =>
    (bc fuel p0 x40 x27 y26.2.2.2.2).bind fun r44 =>
    bif (!r44) then
     (aE fuel p0 p1 y26.2.2.2.2).bind fun r45 =>
     some (.inr (.inr (r45.1, r45.2)))
    else
     (Option.elim p4
      (some (.inl (y26.1, y26.2.1, y26.2.2.1, (IntKind.wrap .i64 (y26.2.2.2.1 + 1)), y26.2.2.2.2)))
     (fun x46 =>
      (bc fuel p0 x27 x46 y26.2.2.2.2).bind fun r47 =>
      bif (!r47) then
       (aE fuel p0 p1 y26.2.2.2.2).bind fun r48 =>
       some (.inr (.inr (r48.1, r48.2)))
      else
       some (.inl (y26.1, y26.2.1, y26.2.2.1, (IntKind.wrap .i64 (y26.2.2.2.1 + 1)), y26.2.2.2.2))))))
 else
  some (.inr (.inl (y26.1, y26.2.1, y26.2.2.1, y26.2.2.2.2)))
def bB (fuel : Nat) (rc : (Nat → Int → Int → (Option Entry) → (Option Entry) → Hp → Option ((Bool) × Hp))) (p0 : Nat) (p1 : Int) (p3 : (Option Entry)) (p4 : (Option Entry)) (v50 : Int × (List Entry) × (List Int) × Hp) (y64 : Int × Hp) : Option ((Int × Hp) ⊕ ((Hp) ⊕ (((Bool) × Hp)))) :=
 bif (decide (y64.1 < (v50.2.2.1.length : Int))) then
  aX (fun (j65 : Bool) =>
   bif j65 then
    (aE fuel p0 p1 y64.2).bind fun r71 =>
    some (.inr (.inr (r71.1, r71.2)))
   else
    aX (fun (j72 : (Option Entry)) =>
     aX (fun (j75 : (Option Entry)) =>
      (idx v50.2.2.1 y64.1).bind fun x78 =>
      (rc p0 x78 (IntKind.wrap .i64 (v50.1 - 1)) j72 j75 y64.2).bind fun r79 =>
      bif (!r79.1) then
       some (.inr (.inr (false, r79.2)))
      else
       some (.inl ((IntKind.wrap .i64 (y64.1 + 1)), r79.2))) fun jp76 =>
     bif (decide (y64.1 < (v50.2.1.length : Int))) then
      (idx v50.2.1 y64.1).bind fun x77 =>
      jp76 (some x77)
     else
      jp76 p4) fun jp73 =>
    bif (decide (y64.1 > 0)) then
     (idx v50.2.1 (IntKind.wrap .i64 (y64.1 - 1))).bind fun x74 =>
     jp73 (some x74)
    else
     jp73 p3) fun jp66 =>
  (idx v50.2.2.1 y64.1).bind fun x67 =>
  (bg (cI .i64).cell y64.2 p0 6).bind fun x68 =>
  bif (x67 != x68) then
   jp66 true
  else
   (bg (cI .i64).cell y64.2 p0 6).bind fun x69 =>
   (cp 3 jI y64.2 p0 5).bind fun x70 =>
   jp66 (decide (x69 ≥ (x70.length : Int)))
 else
  some (.inr (.inl y64.2))
def du (fuel : Nat) (rc : (Nat → Int → Int → (Option Entry) → (Option Entry) → Hp → Option ((Bool) × Hp))) (p0 : Nat) (p1 : Int) (p2 : Int) (p3 : (Option Entry)) (p4 : (Option Entry)) (H : Hp) : Option ((Bool) × Hp) :=
 (bg (cI .i64).cell H p0 6).bind fun x1 =>
 (dA (cI .i64) H p0 6 (IntKind.wrap .i64 (x1 + 1))).bind fun H2 =>
 (cp 3 jI H2 p0 5).bind fun x3 =>
 (idx x3 p1).bind fun x4 =>
 (iter (bC fuel p0 p1) fuel (x4.Level, x4.Entries, x4.Kids, 0, H2)).bind (Sum.elim (fun v25 =>
  (iter (cf fuel p0 p1 p3 p4) fuel (v25.1, v25.2.1, v25.2.2.1, 0, v25.2.2.2)).bind (Sum.elim (fun v50 =>
   (bg (cI .i64).cell v50.2.2.2 p0 3).bind fun x51 =>
   aX (fun (j52 : Int) =>
    aX (fun (j54 : Int) =>
     aX (fun (j56 : Unit) =>
      (iter (bB fuel rc p0 p1 p3 p4 v50) fuel (0, v50.2.2.2)).bind (Sum.elim (fun v81 =>
       some (true, v81)) (fun r82 =>
       some r82))) fun jp57 =>
     (bg (cI .i64).cell v50.2.2.2 p0 3).bind fun x58 =>
     bif (decide ((v50.2.1.length : Int) > x58)) then
      (aE fuel p0 p1 v50.2.2.2).bind fun r59 =>
      some (r59.1, r59.2)
     else
      bif ((decide ((v50.2.1.length : Int) < j52)) || (decide (v50.1 < 0))) then
       (aE fuel p0 p1 v50.2.2.2).bind fun r60 =>
       some (r60.1, r60.2)
      else
       bif (decide (p2 ≥ 0)) then
        bif (v50.1 != p2) then
         (aE fuel p0 p1 v50.2.2.2).bind fun r61 =>
         some (r61.1, r61.2)
        else
         bif ((v50.2.2.1.length : Int) != j54) then
          (aE fuel p0 p1 v50.2.2.2).bind fun r62 =>
          some (r62.1, r62.2)
         else
          jp57 ()
       else
        bif ((v50.2.2.1.length : Int) != j54) then
         (aE fuel p0 p1 v50.2.2.2).bind fun r63 =>
         some (r63.1, r63.2)
        else
         jp57 ()) fun jp55 =>
    bif (v50.1 == 0) then
     jp55 0
    else
     jp55 (IntKind.wrap .i64 ((v50.2.1.length : Int) + 1))) fun jp53 =>
   bif (p1 == 0) then
    bif (v50.1 != 0) then
     jp53 1
    else
     jp53 0
   else
    jp53 (IntKind.wrap .i64 (Int.tdiv x51 2))) (fun r83 =>
   some r83))) (fun r84 =>
  some r84))
def bq : Nat → (Nat → Int → Int → (Option Entry) → (Option Entry) → Hp → Option ((Bool) × Hp))
 | 0 => fun _ _ _ _ _ _ => none
 | fuel + 1 => du fuel (bq fuel)
def BU (x0 : Int × (List Entry) × (List Int) × Hp) : SV := vI (IntKind.wrap .i64 ((x0.2.1.length : Int) + 1))
def Dj (x0 : Int × (List Entry) × (List Int) × Hp) (x1 : Int) : SV := vB (decide ((x0.2.1.length : Int) > x1))
def Di (x0 : Int × (List Entry) × (List Int) × Hp) (x1 : Int) : SV := vB (decide ((x0.2.1.length : Int) < x1))
def Dh (x0 : Int × (List Entry) × (List Int) × Hp) (x1 : Int) : SV := vB ((decide ((x0.2.1.length : Int) < x1)) || (decide (x0.1 < 0)))
def yB (x0 : Int × (List Entry) × (List Int) × Hp) : SV := .d (.list 1 (List.map (D.int .i64) x0.2.2.1))
def BT (x0 : Int × (List Entry) × (List Int) × Hp) (x1 : Int) : SV := vB ((x0.2.2.1.length : Int) != x1)
def AP (x0 : Int × (List Entry) × (List Int) × Hp) : SV := vI (x0.2.2.1.length : Int)
def Dg (x0 : Int × (List Entry) × (List Int) × Hp) : SV := vI (IntKind.wrap .i64 (x0.1 - 1))
def Df (x0 : Int × Hp) (x1 : Int × (List Entry) × (List Int) × Hp) : SV := vB (decide (x0.1 < (x1.2.2.1.length : Int)))
def De (x0 : Int × Hp) : SV := vI (IntKind.wrap .i64 (x0.1 - 1))
def Dc (x0 : Int × Hp) (x1 : Int × (List Entry) × (List Int) × Hp) : SV := vB (decide (x0.1 < (x1.2.1.length : Int)))
def K0 := fun a0 a1 a2 a3 a4 (t : SL) => ((0, .d (.ptr a0 0)) :: (1, vI a1) :: (2, vI a2) :: (3, .d (aP ab a3)) :: (4, .d (aP ab a4)) :: t : SL)
def K5 := fun a0 a1 a2 a3 a4 (t : SL) => ((0, .d (.ptr a0 0)) :: (1, vI a1) :: (3, .d (aP ab a2)) :: (4, .d (aP ab a3)) :: (11, zI a4) :: t : SL)
def K12 := fun a0 a1 a2 a3 a4 a5 a6 (t : SL) => ((0, .d (.ptr a0 0)) :: (1, vI a1) :: (2, vI a2) :: (3, .d (aP ab a3)) :: (4, .d (aP ab a4)) :: (11, eW a5) :: (12, vI a6) :: t : SL)
def K20 := fun a0 a1 a2 a3 a4 a5 a6 (t : SL) => ((0, .d (.ptr a0 0)) :: (1, vI a1) :: (2, vI a2) :: (3, kF a3) :: (4, .d (aP ab a4)) :: (11, eW a5) :: (15, vI a6) :: t : SL)
def K40 := fun a0 a1 a2 a3 a4 a5 a6 a7 a8 (t : SL) => ((0, .d (.ptr a0 0)) :: (1, vI a1) :: (2, vI a2) :: (3, .d (aP ab a3)) :: (4, .d (aP ab a4)) :: (11, eW a5) :: (12, vI a6) :: (13, Z76 a7) :: (89, .d (.ptr a8 0)) :: t : SL)
def K43 := fun a0 a1 a2 a3 a4 a5 a6 a7 (t : SL) => ((0, .d (.ptr a0 0)) :: (1, vI a1) :: (3, .d (aP ab a2)) :: (4, .d (aP ab a3)) :: (11, zI a4) :: (19, vI a5) :: (20, .d (aP ab a6)) :: (21, .d (aP ab a7)) :: t : SL)
def K44 := fun a0 a1 a2 (t : SL) => ((0, .d (.ptr a0 0)) :: (1, vI a1) :: (2, vI a2) :: (3, .d (.aL)) :: t : SL)
def K56 := fun a0 a1 a2 a3 a4 a5 a6 a7 (t : SL) => ((0, .d (.ptr a0 0)) :: (1, vI a1) :: (2, vI a2) :: (3, .d (aP ab a3)) :: (4, .d (aP ab a4)) :: (11, eW a5) :: (12, vI a6) :: (89, .d (.ptr a7 0)) :: t : SL)
def K60 := fun a0 a1 a2 a3 a4 a5 a6 (t : SL) => ((0, .d (.ptr a0 0)) :: (1, vI a1) :: (2, vI a2) :: (3, .d (aP ab a3)) :: (4, .d (aP ab a4)) :: (11, eW a5) :: (15, vI a6) :: t : SL)
def K62 := fun a0 a1 a2 a3 a4 a5 (t : SL) => ((0, .d (.ptr a0 0)) :: (1, vI a1) :: (2, vI a2) :: (3, kF a3) :: (4, kF a4) :: (11, eW a5) :: t : SL)
def K68 := fun a0 a1 a2 a3 a4 a5 (t : SL) => ((0, .d (.ptr a0 0)) :: (1, vI a1) :: (2, vI a2) :: (3, .d (aP ab a3)) :: (4, .d (aP ab a4)) :: (11, zI a5) :: t : SL)
def K69 := fun a0 a1 a2 a3 a4 a5 a6 a7 (t : SL) => ((0, .d (.ptr a0 0)) :: (1, vI a1) :: (2, vI a2) :: (3, .d (.aL)) :: (4, .d (aP ab a3)) :: (11, eW a4) :: (15, vI a5) :: (16, Z76 a6) :: (139, vB false) :: (140, .d (aP ab a7)) :: t : SL)
def K88 := fun a0 a1 a2 a3 a4 a5 a6 a7 (t : SL) => ((0, .d (.ptr a0 0)) :: (1, vI a1) :: (2, vI a2) :: (3, .d (aP ab a3)) :: (4, .d (aP ab a4)) :: (11, .box [vI a5, .d (.list 3 (List.map ab a6)), .d (.list 1 (List.map (D.int .i64) a7))]) :: t : SL)
def K89 := fun a0 a1 (t : SL) => ((152, .d (.ptr a0 0)) :: (153, vI a1) :: t : SL)
def K91 := fun a0 a1 a2 a3 a4 a5 (t : SL) => ((0, .d (.ptr a0 0)) :: (1, vI a1) :: (3, .d (aP ab a2)) :: (4, .d (aP ab a3)) :: (11, zI a4) :: (19, vI a5) :: t : SL)
def K93 := fun a0 a1 a2 a3 a4 a5 a6 a7 (t : SL) => ((0, .d (.ptr a0 0)) :: (1, vI a1) :: (2, vI a2) :: (3, .d (aP ab a3)) :: (4, .d (aP ab a4)) :: (11, eW a5) :: (12, vI a6) :: (13, Z76 a7) :: t : SL)
theorem lG {fuel : Nat} {rc : (Nat → Int → Int → (Option Entry) → (Option Entry) → Hp → Option ((Bool) × Hp))} (ih : ∀ {p0 : Nat} {p1 : Int} {p2 : Int} {p3 : (Option Entry)} {p4 : (Option Entry)} {H : Hp} {r : (Bool) × Hp}, rc p0 p1 p2 p3 p4 H = some r → SC Try.prog false 28 [.d (.ptr p0 0), vI p1, vI p2, .d (aP ab p3), .d (aP ab p4)] H (vB r.1) r.2) {p0 : Nat} {p1 : Int} {p2 : Int} {p3 : (Option Entry)} {p4 : (Option Entry)} {H : Hp} {r : (Bool) × Hp} (h : du fuel rc p0 p1 p2 p3 p4 H = some r) : SC Try.prog false 28 [.d (.ptr p0 0), vI p1, vI p2, .d (aP ab p3), .d (aP ab p4)] H (vB r.1) r.2 := by
 refine SC.ga Try.func28 rfl ?_
 unfold du at h
 refine SW.kp 275 H [0, 1, 2, 3, 4] (K0 p0 p1 p2 p3 p4 []) (by kernel_rfl) <| SW.R 1 (K0 p0 p1 p2 p3 p4 []) <| SW.S <| OWk.G 3 (K0 p0 p1 p2 p3 p4 [(22, .d (.ptr p0 0)), (24, .d (.ptr p0 6))]) ?_
 obtain ⟨x1, hx, h⟩ := aa h
 refine OWk.O (d := some 25) (s := vI x1) (K0 p0 p1 p2 p3 p4 [(22, .d (.ptr p0 0)), (25, vI x1)]) (BAt.ldH (c := (cI .i64).cell) hx (by kernel_rfl)) <| OWk.G 3 (K0 p0 p1 p2 p3 p4 [(26, Z18 x1), (28, .d (.ptr p0 6))]) ?_
 obtain ⟨H2, hx, h⟩ := aa h
 refine OWk.hst 275 H2 [0, 1, 2, 3, 4] (K0 p0 p1 p2 p3 p4 []) hx (by kernel_rfl) (by kernel_rfl) <| OWk.E <| SW.S <| OWk.G 3 (K0 p0 p1 p2 p3 p4 [(31, .d (.ptr p0 5))]) ?_
 obtain ⟨x3, hx, h⟩ := aa h
 refine OWk.O (d := some 32) (s := .bf (.ai p0 5) 3 (List.map aI x3)) (K0 p0 p1 p2 p3 p4 [(32, AS p0 x3)]) (BAt.ldL (c := jI) hx (by kernel_rfl)) <| OWk.G 1 (K0 p0 p1 p2 p3 p4 [(32, AS p0 x3), (33, vI p1)]) ?_
 obtain ⟨x4, hx, h⟩ := aa h
 refine OWk.O (d := some 34) (s := aO (some (.ai p0 5)) (Go.Sh.D.cells (aI x4))) (K0 p0 p1 p2 p3 p4 [(34, .bO (.ai p0 5) [.int .i64 x4.Level, .list 3 (List.map ab x4.Entries), .list 1 (List.map (D.int .i64) x4.Kids)])]) (BAt.index (n := 3) hx (by kernel_rfl)) <| OWk.G 3 (K0 p0 p1 p2 p3 p4 [(11, eG x4)]) <| OWk.E <| SW.seq <| SW.R 1 (K0 p0 p1 p2 p3 p4 [(11, eG x4), (12, vI 0)]) <| SW.block ?_
 obtain ⟨z24, hit, h⟩ := aa h
 refine SW.itH 275 [0, 1, 2, 3, 4, 11, 12] (fun y5 => (K88 p0 p1 p2 p3 p4 y5.1 y5.2.1 y5.2.2.1 [(12, vI y5.2.2.2.1)])) (fun y5 => y5.2.2.2.2) (fun b e s => ((∃ v25, b = (.inl v25) ∧ (e = .exit 0 ∧ s = (sp 275 (K88 p0 p1 p2 p3 p4 v25.1 v25.2.1 v25.2.2.1 []) v25.2.2.2))) ∨ (∃ r84, b = (.inr r84) ∧ (e = .ret ∧ aA Try.prog Try.f28.results.toList r84.2 (vB r84.1) .ret s)))) hit (by kernel_rfl) (fun y5 o h => ?_) ?_
 ·unfold bC at h
  refine SW.seq <| SW.S <| OWk.G 3 (K12 p0 p1 p2 p3 p4 y5 y5.2.2.2.1 [(36, vI y5.2.2.2.1), (38, vh y5)]) <| OWk.O (d := some 39) (K12 p0 p1 p2 p3 p4 y5 y5.2.2.2.1 [(36, vI y5.2.2.2.1), (39, BZ y5)]) (BAt.len (enc := ab) (xs := y5.2.1) (by kernel_rfl)) <| OWk.G 1 (K12 p0 p1 p2 p3 p4 y5 y5.2.2.2.1 [(40, B0 y5)]) <| OWk.E ?_
  refine SW.B (decide (y5.2.2.2.1 < (y5.2.1.length : Int))) (fun hc => ?_) (fun hc => ?_)
  ·replace h := an hc h
   refine SW.skip <| ad <| SW.seq <| SW.block <| SW.S <| OWk.G 3 (K12 p0 p1 p2 p3 p4 y5 y5.2.2.2.1 [(44, vh y5), (45, vI y5.2.2.2.1)]) ?_
   obtain ⟨x6, hx, h⟩ := aa h
   refine OWk.O (d := some 46) (s := aO none (Go.Sh.D.cells (ab x6))) (K12 p0 p1 p2 p3 p4 y5 y5.2.2.2.1 [(46, .d (.aR [.list 3 (List.map ag x6.Row), .int .i64 x6.Key, .int .i64 x6.Number]))]) (BAt.index (n := 3) hx (by kernel_rfl)) <| OWk.G 3 (K93 p0 p1 p2 p3 p4 y5 y5.2.2.2.1 x6 []) <| OWk.E <| SW.seq ?_
   obtain ⟨jp8, hjjp8, h⟩ := bt h
   refine SW.jn 275 y5.2.2.2.2 [0, 1, 2, 3, 4, 11, 12, 13, 63] (fun (j7 : Bool) => (K93 p0 p1 p2 p3 p4 y5 y5.2.2.2.1 x6 [(63, vB j7)])) (fun v => jp8 v = some o) (fun j7 h => ?_) ?_
   ·rw [hjjp8] at h
    refine SW.B j7 (fun hc => ?_) (fun hc => ?_)
    ·replace h := an hc h
     refine SW.S <| OWk.G 2 [(64, .d (.ptr p0 0)), (65, vI p1)] ?_
     obtain ⟨r12, hr, h⟩ := aa h
     refine OWk.CH (some 66) [(66, vB r12.1)] (aU hr) <| OWk.G 1 [(10, vB r12.1)] <| OWk.E <| SW.ret <| af <| ax <| af ?_
     cases h
     refine af ?_
     exact ⟨_, rfl, .inr (⟨(r12.1, r12.2), rfl, rfl, aA.ret [] (by kernel_rfl) rfl⟩)⟩
    ·replace h := ao hc h
     refine SW.skip <| ad <| SW.seq <| SW.R 1 (K93 p0 p1 p2 p3 p4 y5 y5.2.2.2.1 x6 [(14, vI 0)]) <| SW.block ?_
     obtain ⟨z18, hit, h⟩ := aa h
     refine SW.itH 275 [0, 1, 2, 3, 4, 11, 12, 13, 14] (fun y13 => (K93 p0 p1 p2 p3 p4 y5 y5.2.2.2.1 x6 [(14, vI y13.1)])) (fun y13 => y13.2) (fun b e s => ((∃ v19, b = (.inl v19) ∧ (e = .exit 2 ∧ s = (sp 275 (K93 p0 p1 p2 p3 p4 y5 y5.2.2.2.1 x6 []) v19))) ∨ (∃ r23, b = (.inr r23) ∧ (e = .ret ∧ aA Try.prog Try.f28.results.toList r23.2 (vB r23.1) .ret s)))) hit (by kernel_rfl) (fun y13 o h => ?_) ?_
     ·unfold cg at h
      refine SW.seq <| SW.S <| OWk.G 4 (K93 p0 p1 p2 p3 p4 y5 y5.2.2.2.1 x6 [(14, vI y13.1), (67, vI y13.1), (70, .d (.ptr p0 7))]) ?_
      obtain ⟨x14, hx, h⟩ := aa h
      refine OWk.O (d := some 71) (s := .bf (.ai p0 7) 1 (List.map (D.int .i64) x14)) (K93 p0 p1 p2 p3 p4 y5 y5.2.2.2.1 x6 [(14, vI y13.1), (67, vI y13.1), (71, AR p0 x14)]) (BAt.ldL (c := (cI .i64)) hx (by kernel_rfl)) <| OWk.O (d := some 72) (K93 p0 p1 p2 p3 p4 y5 y5.2.2.2.1 x6 [(14, vI y13.1), (67, vI y13.1), (72, vI (x14.length : Int))]) (BAt.len (enc := (D.int .i64)) (xs := x14) (by kernel_rfl)) <| OWk.G 1 (K93 p0 p1 p2 p3 p4 y5 y5.2.2.2.1 x6 [(14, vI y13.1), (73, Ds y13 x14)]) <| OWk.E ?_
      refine SW.B (decide (y13.1 < (x14.length : Int))) (fun hc => ?_) (fun hc => ?_)
      ·replace h := an hc h
       refine SW.skip <| ad <| SW.seq <| SW.block <| SW.seq <| SW.gz (by kernel_rfl) (by kernel_rfl) <| OBk.G 3 (K93 p0 p1 p2 p3 p4 y5 y5.2.2.2.1 x6 [(14, vI y13.1), (78, .d (.ptr p0 7))]) ?_
       obtain ⟨x15, hx, h⟩ := aa h
       refine OBk.O (d := some 79) (s := .bf (.ai p0 7) 1 (List.map (D.int .i64) x15)) (K93 p0 p1 p2 p3 p4 y5 y5.2.2.2.1 x6 [(14, vI y13.1), (79, AR p0 x15)]) (BAt.ldL (c := (cI .i64)) hx (by kernel_rfl)) <| OBk.G 1 (K93 p0 p1 p2 p3 p4 y5 y5.2.2.2.1 x6 [(14, vI y13.1), (79, AR p0 x15), (80, vI y13.1)]) ?_
       obtain ⟨x16, hx, h⟩ := aa h
       refine OBk.O (d := some 81) (s := aO (some (.ai p0 7)) (Go.Sh.D.cells ((D.int .i64) x16))) (K93 p0 p1 p2 p3 p4 y5 y5.2.2.2.1 x6 [(14, vI y13.1), (81, .bO (.ai p0 7) [.int .i64 x16])]) (BAt.index (n := 1) hx (by kernel_rfl)) <| OBk.G 4 (K93 p0 p1 p2 p3 p4 y5 y5.2.2.2.1 x6 [(14, vI y13.1), (85, vB (x16 == x6.Number))]) <| OBk.done (by kernel_rfl) <| ad ?_
       refine SW.B (x16 == x6.Number) (fun hc => ?_) (fun hc => ?_)
       ·replace h := an hc h
        refine SW.S <| OWk.G 2 [(86, .d (.ptr p0 0)), (87, vI p1)] ?_
        obtain ⟨r17, hr, h⟩ := aa h
        refine OWk.CH (some 88) [(88, vB r17.1)] (aU hr) <| OWk.G 1 [(10, vB r17.1)] <| OWk.E <| SW.ret <| ax <| af ?_
        cases h
        refine af ?_
        exact ⟨_, rfl, .inr (⟨(r17.1, r17.2), rfl, rfl, aA.ret [] (by kernel_rfl) rfl⟩)⟩
       ·replace h := ao hc h
        refine SW.skip <| aH <| ad <| SW.au <| OWk.G 3 (K93 p0 p1 p2 p3 p4 y5 y5.2.2.2.1 x6 [(14, wV y13)]) <| OWk.D ?_
        cases h
        exact ⟨((IntKind.wrap .i64 (y13.1 + 1)), y13.2), rfl, by kernel_rfl⟩
      ·replace h := ao hc h
       refine SW.K (K93 p0 p1 p2 p3 p4 y5 y5.2.2.2.1 x6 []) <| SW.exit <| aJ ?_
       cases h
       refine aJ ?_
       exact ⟨_, rfl, .inl ⟨y13.2, rfl, rfl, rfl⟩⟩
     ·rintro _ _ (⟨v19, rfl, rfl, rfl⟩ | ⟨r23, rfl, rfl, hE⟩)
      ·replace h := dO h
       refine aT <| ad ?_
       obtain ⟨q20, hq_4, h⟩ := aa h
       obtain ⟨hk21, h⟩ := bH h
       obtain ⟨H22, hx_11, h⟩ := aa h
       refine SW.K (K93 p0 p1 p2 p3 p4 y5 y5.2.2.2.1 x6 []) ?_
       refine SW.nB 275 H22 (K12 p0 p1 p2 p3 p4 y5 y5.2.2.2.1 []) [0, 1] 10 3 (by kernel_rfl) (by kernel_rfl) (by kernel_rfl) (fun X hX => ?_) ?_
       ·have c4095 : X 0 4095 (sp 275 (K12 p0 p1 p2 p3 p4 y5 y5.2.2.2.1 []) H22) := by subst hX; exact OX.fin (by kernel_rfl)
        have c2047 : X 1 2047 (sp 275 (K12 p0 p1 p2 p3 p4 y5 y5.2.2.2.1 [(97, wU q20 x6), (99, .d (.ptr p0 7))]) q20.2) := by
         subst hX
         refine OX.step (i0 := 11) (is := []) (by kernel_rfl) (by kernel_rfl) ⟨?_, trivial⟩
         ·refine OWk.gvH (c := (cI .i64)) (n' := 1) (s := 97) (xs := (q20.1 ++ [x6.Number])) 275 [0, 1, 2, 3, 4, 11, 12] (K12 p0 p1 p2 p3 p4 y5 y5.2.2.2.1 []) hx_11 (by kernel_rfl) (by kernel_rfl) <| OWk.D ?_
          exact c4095
        have c1023 : X 2 1023 (sp 275 (K12 p0 p1 p2 p3 p4 y5 y5.2.2.2.1 [(97, wU q20 x6), (98, .d (.ptr p0 0))]) q20.2) := by
         subst hX
         refine OX.step (i0 := 10) (is := []) (by kernel_rfl) (by kernel_rfl) ⟨?_, trivial⟩
         ·refine OWk.sg 275 q20.2 [93] [0, 1, 2, 3, 4, 11, 12, 97, 99] 1 (K12 p0 p1 p2 p3 p4 y5 y5.2.2.2.1 [(97, wU q20 x6), (99, .d (.ptr p0 7))]) (by kernel_rfl) <| OWk.D ?_
          exact c2047
        have c511 : X 3 511 (sp 275 (K56 p0 p1 p2 p3 p4 y5 y5.2.2.2.1 p0 [(97, wU q20 x6)]) q20.2) := by
         subst hX
         refine OX.step (i0 := 9) (is := []) (by kernel_rfl) (by kernel_rfl) ⟨?_, trivial⟩
         ·refine OWk.sg 275 q20.2 [93] [0, 1, 2, 3, 4, 11, 12, 97, 98] 1 (K12 p0 p1 p2 p3 p4 y5 y5.2.2.2.1 [(97, wU q20 x6), (98, .d (.ptr p0 0))]) (by kernel_rfl) <| OWk.D ?_
          exact c1023
        have c255 : X 4 255 (sp 275 (K56 p0 p1 p2 p3 p4 y5 y5.2.2.2.1 p0 [(93, qo q20), (96, qa x6)]) q20.2) := by
         subst hX
         refine OX.step (i0 := 8) (is := []) (by kernel_rfl) (by kernel_rfl) ⟨?_, trivial⟩
         ·refine OWk.app 275 q20.2 (s := 93) (d := 97) (w := 1) [0, 1, 2, 3, 4, 11, 12, 89, 97] (zs := List.map (D.int .i64) (q20.1 ++ [x6.Number])) (K56 p0 p1 p2 p3 p4 y5 y5.2.2.2.1 p0 [(97, wU q20 x6)]) (ys := (List.map (D.int .i64) [x6.Number])) (by kernel_rfl) (aY) (bY hk21) (by kernel_rfl) <| OWk.D ?_
          exact c511
        have c127 : X 5 127 (sp 275 (K56 p0 p1 p2 p3 p4 y5 y5.2.2.2.1 p0 [(93, qo q20), (95, vI x6.Number)]) q20.2) := by
         subst hX
         refine OX.step (i0 := 7) (is := []) (by kernel_rfl) (by kernel_rfl) ⟨?_, trivial⟩
         ·refine OWk.sg 275 q20.2 [93] [0, 1, 2, 3, 4, 11, 12, 89, 93, 96] 1 (K56 p0 p1 p2 p3 p4 y5 y5.2.2.2.1 p0 [(93, qo q20), (96, qa x6)]) (by kernel_rfl) <| OWk.D ?_
          exact c255
        have c63 : X 6 63 (sp 275 (K40 p0 p1 p2 p3 p4 y5 y5.2.2.2.1 x6 p0 [(93, qo q20), (94, .loc 13 2)]) q20.2) := by
         subst hX
         refine OX.step (i0 := 6) (is := []) (by kernel_rfl) (by kernel_rfl) ⟨?_, trivial⟩
         ·refine OWk.sg 275 q20.2 [93] [0, 1, 2, 3, 4, 11, 12, 89, 93, 95] 1 (K56 p0 p1 p2 p3 p4 y5 y5.2.2.2.1 p0 [(93, qo q20), (95, vI x6.Number)]) (by kernel_rfl) <| OWk.D ?_
          exact c127
        have c31 : X 7 31 (sp 275 (K40 p0 p1 p2 p3 p4 y5 y5.2.2.2.1 x6 p0 [(93, qo q20)]) q20.2) := by
         subst hX
         refine OX.step (i0 := 5) (is := []) (by kernel_rfl) (by kernel_rfl) ⟨?_, trivial⟩
         ·refine OWk.sg 275 q20.2 [93] [0, 1, 2, 3, 4, 11, 12, 13, 89, 93, 94] 1 (K40 p0 p1 p2 p3 p4 y5 y5.2.2.2.1 x6 p0 [(93, qo q20), (94, .loc 13 2)]) (by kernel_rfl) <| OWk.D ?_
          exact c63
        have c239 : X 5 239 (sp 275 (K56 p0 p1 p2 p3 p4 y5 y5.2.2.2.1 p0 [(92, .d (.ptr p0 7)), (96, qa x6)]) v19) := by
         subst hX
         refine OX.step (i0 := 4) (is := []) (by kernel_rfl) (by kernel_rfl) ⟨?_, trivial⟩
         ·refine OWk.tkH (c := (cI .i64)) (n' := 1) (d := 93) (xs := q20.1) 275 [0, 1, 2, 3, 4, 11, 12, 89, 93, 96] (K56 p0 p1 p2 p3 p4 y5 y5.2.2.2.1 p0 [(93, qo q20), (96, qa x6)]) hq_4 (by kernel_rfl) (by kernel_rfl) <| OWk.D ?_
          exact c255
        have c111 : X 6 111 (sp 275 (K56 p0 p1 p2 p3 p4 y5 y5.2.2.2.1 p0 [(92, .d (.ptr p0 7)), (95, vI x6.Number)]) v19) := by
         subst hX
         refine OX.step (i0 := 4) (is := [7]) (by kernel_rfl) (by kernel_rfl) ⟨?_, ?_, trivial⟩
         ·refine OWk.tkH (c := (cI .i64)) (n' := 1) (d := 93) (xs := q20.1) 275 [0, 1, 2, 3, 4, 11, 12, 89, 93, 95] (K56 p0 p1 p2 p3 p4 y5 y5.2.2.2.1 p0 [(93, qo q20), (95, vI x6.Number)]) hq_4 (by kernel_rfl) (by kernel_rfl) <| OWk.D ?_
          exact c127
         ·refine OWk.sg 275 v19 [93] [0, 1, 2, 3, 4, 11, 12, 89, 92, 96] 1 (K56 p0 p1 p2 p3 p4 y5 y5.2.2.2.1 p0 [(92, .d (.ptr p0 7)), (96, qa x6)]) (by kernel_rfl) <| OWk.D ?_
          exact c239
        have c47 : X 7 47 (sp 275 (K40 p0 p1 p2 p3 p4 y5 y5.2.2.2.1 x6 p0 [(92, .d (.ptr p0 7)), (94, .loc 13 2)]) v19) := by
         subst hX
         refine OX.step (i0 := 4) (is := [6]) (by kernel_rfl) (by kernel_rfl) ⟨?_, ?_, trivial⟩
         ·refine OWk.tkH (c := (cI .i64)) (n' := 1) (d := 93) (xs := q20.1) 275 [0, 1, 2, 3, 4, 11, 12, 13, 89, 93, 94] (K40 p0 p1 p2 p3 p4 y5 y5.2.2.2.1 x6 p0 [(93, qo q20), (94, .loc 13 2)]) hq_4 (by kernel_rfl) (by kernel_rfl) <| OWk.D ?_
          exact c63
         ·refine OWk.sg 275 v19 [93] [0, 1, 2, 3, 4, 11, 12, 89, 92, 95] 1 (K56 p0 p1 p2 p3 p4 y5 y5.2.2.2.1 p0 [(92, .d (.ptr p0 7)), (95, vI x6.Number)]) (by kernel_rfl) <| OWk.D ?_
          exact c111
        have c15 : X 8 15 (sp 275 (K40 p0 p1 p2 p3 p4 y5 y5.2.2.2.1 x6 p0 [(92, .d (.ptr p0 7))]) v19) := by
         subst hX
         refine OX.step (i0 := 4) (is := [5]) (by kernel_rfl) (by kernel_rfl) ⟨?_, ?_, trivial⟩
         ·refine OWk.tkH (c := (cI .i64)) (n' := 1) (d := 93) (xs := q20.1) 275 [0, 1, 2, 3, 4, 11, 12, 13, 89, 93] (K40 p0 p1 p2 p3 p4 y5 y5.2.2.2.1 x6 p0 [(93, .own 1 (List.map (D.int .i64) q20.1))]) hq_4 (by kernel_rfl) (by kernel_rfl) <| OWk.D ?_
          exact c31
         ·refine OWk.sg 275 v19 [93] [0, 1, 2, 3, 4, 11, 12, 13, 89, 92, 94] 1 (K40 p0 p1 p2 p3 p4 y5 y5.2.2.2.1 x6 p0 [(92, .d (.ptr p0 7)), (94, .loc 13 2)]) (by kernel_rfl) <| OWk.D ?_
          exact c47
        have c231 : X 6 231 (sp 275 (K56 p0 p1 p2 p3 p4 y5 y5.2.2.2.1 p0 [(91, .d (.ptr p0 0)), (96, qa x6)]) v19) := by
         subst hX
         refine OX.step (i0 := 3) (is := []) (by kernel_rfl) (by kernel_rfl) ⟨?_, trivial⟩
         ·refine OWk.sg 275 v19 [93] [0, 1, 2, 3, 4, 11, 12, 89, 92, 96] 1 (K56 p0 p1 p2 p3 p4 y5 y5.2.2.2.1 p0 [(92, .d (.ptr p0 7)), (96, qa x6)]) (by kernel_rfl) <| OWk.D ?_
          exact c239
        have c103 : X 7 103 (sp 275 (K56 p0 p1 p2 p3 p4 y5 y5.2.2.2.1 p0 [(91, .d (.ptr p0 0)), (95, vI x6.Number)]) v19) := by
         subst hX
         refine OX.step (i0 := 3) (is := [7]) (by kernel_rfl) (by kernel_rfl) ⟨?_, ?_, trivial⟩
         ·refine OWk.sg 275 v19 [93] [0, 1, 2, 3, 4, 11, 12, 89, 92, 95] 1 (K56 p0 p1 p2 p3 p4 y5 y5.2.2.2.1 p0 [(92, .d (.ptr p0 7)), (95, vI x6.Number)]) (by kernel_rfl) <| OWk.D ?_
          exact c111
         ·refine OWk.sg 275 v19 [93] [0, 1, 2, 3, 4, 11, 12, 89, 91, 96] 1 (K56 p0 p1 p2 p3 p4 y5 y5.2.2.2.1 p0 [(91, .d (.ptr p0 0)), (96, qa x6)]) (by kernel_rfl) <| OWk.D ?_
          exact c231
        have c39 : X 8 39 (sp 275 (K40 p0 p1 p2 p3 p4 y5 y5.2.2.2.1 x6 p0 [(91, .d (.ptr p0 0)), (94, .loc 13 2)]) v19) := by
         subst hX
         refine OX.step (i0 := 3) (is := [6]) (by kernel_rfl) (by kernel_rfl) ⟨?_, ?_, trivial⟩
         ·refine OWk.sg 275 v19 [93] [0, 1, 2, 3, 4, 11, 12, 13, 89, 92, 94] 1 (K40 p0 p1 p2 p3 p4 y5 y5.2.2.2.1 x6 p0 [(92, .d (.ptr p0 7)), (94, .loc 13 2)]) (by kernel_rfl) <| OWk.D ?_
          exact c47
         ·refine OWk.sg 275 v19 [93] [0, 1, 2, 3, 4, 11, 12, 89, 91, 95] 1 (K56 p0 p1 p2 p3 p4 y5 y5.2.2.2.1 p0 [(91, .d (.ptr p0 0)), (95, vI x6.Number)]) (by kernel_rfl) <| OWk.D ?_
          exact c103
        have c7 : X 9 7 (sp 275 (K40 p0 p1 p2 p3 p4 y5 y5.2.2.2.1 x6 p0 [(91, .d (.ptr p0 0))]) v19) := by
         subst hX
         refine OX.step (i0 := 3) (is := [5]) (by kernel_rfl) (by kernel_rfl) ⟨?_, ?_, trivial⟩
         ·refine OWk.sg 275 v19 [93] [0, 1, 2, 3, 4, 11, 12, 13, 89, 92] 1 (K40 p0 p1 p2 p3 p4 y5 y5.2.2.2.1 x6 p0 [(92, .d (.ptr p0 7))]) (by kernel_rfl) <| OWk.D ?_
          exact c15
         ·refine OWk.sg 275 v19 [93] [0, 1, 2, 3, 4, 11, 12, 13, 89, 91, 94] 1 (K40 p0 p1 p2 p3 p4 y5 y5.2.2.2.1 x6 p0 [(91, .d (.ptr p0 0)), (94, .loc 13 2)]) (by kernel_rfl) <| OWk.D ?_
          exact c39
        have c227 : X 7 227 (sp 275 (K56 p0 p1 p2 p3 p4 y5 y5.2.2.2.1 p0 [(90, .d (.ptr p0 0)), (96, qa x6)]) v19) := by
         subst hX
         refine OX.step (i0 := 2) (is := []) (by kernel_rfl) (by kernel_rfl) ⟨?_, trivial⟩
         ·refine OWk.sg 275 v19 [93] [0, 1, 2, 3, 4, 11, 12, 89, 91, 96] 1 (K56 p0 p1 p2 p3 p4 y5 y5.2.2.2.1 p0 [(91, .d (.ptr p0 0)), (96, qa x6)]) (by kernel_rfl) <| OWk.D ?_
          exact c231
        have c99 : X 8 99 (sp 275 (K56 p0 p1 p2 p3 p4 y5 y5.2.2.2.1 p0 [(90, .d (.ptr p0 0)), (95, vI x6.Number)]) v19) := by
         subst hX
         refine OX.step (i0 := 2) (is := [7]) (by kernel_rfl) (by kernel_rfl) ⟨?_, ?_, trivial⟩
         ·refine OWk.sg 275 v19 [93] [0, 1, 2, 3, 4, 11, 12, 89, 91, 95] 1 (K56 p0 p1 p2 p3 p4 y5 y5.2.2.2.1 p0 [(91, .d (.ptr p0 0)), (95, vI x6.Number)]) (by kernel_rfl) <| OWk.D ?_
          exact c103
         ·refine OWk.sg 275 v19 [93] [0, 1, 2, 3, 4, 11, 12, 89, 90, 96] 1 (K56 p0 p1 p2 p3 p4 y5 y5.2.2.2.1 p0 [(90, .d (.ptr p0 0)), (96, qa x6)]) (by kernel_rfl) <| OWk.D ?_
          exact c227
        have c35 : X 9 35 (sp 275 (K40 p0 p1 p2 p3 p4 y5 y5.2.2.2.1 x6 p0 [(90, .d (.ptr p0 0)), (94, .loc 13 2)]) v19) := by
         subst hX
         refine OX.step (i0 := 2) (is := [6]) (by kernel_rfl) (by kernel_rfl) ⟨?_, ?_, trivial⟩
         ·refine OWk.sg 275 v19 [93] [0, 1, 2, 3, 4, 11, 12, 13, 89, 91, 94] 1 (K40 p0 p1 p2 p3 p4 y5 y5.2.2.2.1 x6 p0 [(91, .d (.ptr p0 0)), (94, .loc 13 2)]) (by kernel_rfl) <| OWk.D ?_
          exact c39
         ·refine OWk.sg 275 v19 [93] [0, 1, 2, 3, 4, 11, 12, 89, 90, 95] 1 (K56 p0 p1 p2 p3 p4 y5 y5.2.2.2.1 p0 [(90, .d (.ptr p0 0)), (95, vI x6.Number)]) (by kernel_rfl) <| OWk.D ?_
          exact c99
        have c3 : X 10 3 (sp 275 (K40 p0 p1 p2 p3 p4 y5 y5.2.2.2.1 x6 p0 [(90, .d (.ptr p0 0))]) v19) := by
         subst hX
         refine OX.step (i0 := 2) (is := [5]) (by kernel_rfl) (by kernel_rfl) ⟨?_, ?_, trivial⟩
         ·refine OWk.sg 275 v19 [93] [0, 1, 2, 3, 4, 11, 12, 13, 89, 91] 1 (K40 p0 p1 p2 p3 p4 y5 y5.2.2.2.1 x6 p0 [(91, .d (.ptr p0 0))]) (by kernel_rfl) <| OWk.D ?_
          exact c7
         ·refine OWk.sg 275 v19 [93] [0, 1, 2, 3, 4, 11, 12, 13, 89, 90, 94] 1 (K40 p0 p1 p2 p3 p4 y5 y5.2.2.2.1 x6 p0 [(90, .d (.ptr p0 0)), (94, .loc 13 2)]) (by kernel_rfl) <| OWk.D ?_
          exact c35
        refine OBk.sg 275 v19 [93] [0, 1, 2, 3, 4, 11, 12, 13, 89] 1 (K40 p0 p1 p2 p3 p4 y5 y5.2.2.2.1 x6 p0 []) (by kernel_rfl) (by kernel_rfl) <| OBk.sg 275 v19 [93] [0, 1, 2, 3, 4, 11, 12, 13, 89, 90] 1 (K40 p0 p1 p2 p3 p4 y5 y5.2.2.2.1 x6 p0 [(90, .d (.ptr p0 0))]) (by kernel_rfl) (by kernel_rfl) <| OBk.done (by kernel_rfl) ?_
        exact c3
       refine aH <| ad <| SW.au <| OWk.G 3 (K0 p0 p1 p2 p3 p4 [(11, eW y5), (12, ou y5)]) <| OWk.D ?_
       cases h
       exact ⟨(y5.1, y5.2.1, y5.2.2.1, (IntKind.wrap .i64 (y5.2.2.2.1 + 1)), H22), rfl, by kernel_rfl⟩
      ·replace h := dN h
       refine ax <| af <| ax <| af ?_
       cases h
       refine af ?_
       exact ⟨_, rfl, .inr (⟨r23, rfl, rfl, hE⟩)⟩
   ·refine SW.cw (by kernel_rfl) (by kernel_rfl) <| OQk.G 3 (K93 p0 p1 p2 p3 p4 y5 y5.2.2.2.1 x6 [(50, .d (.ptr p0 0))]) ?_
    obtain ⟨x9, hx, h⟩ := aa h
    refine OQk.on 275 y5.2.2.2.2 (d := some 51) (s := .d (.agg [.list 1 (List.map (D.int .i64) x9.aq), .list 1 (List.map D.bool x9.Down), .int .i64 x9.Dup])) [0, 1, 2, 3, 4, 11, 12, 13, 51] (K93 p0 p1 p2 p3 p4 y5 y5.2.2.2.1 x6 [(51, Z23 x9)]) (BAt.ldH (c := bu.cells) hx (by kernel_rfl)) (by kernel_rfl) <| OQk.G 1 (K93 p0 p1 p2 p3 p4 y5 y5.2.2.2.1 x6 [(51, Z23 x9), (52, Z77 x6)]) ?_
    obtain ⟨r10, hr, h⟩ := aa h
    refine OQk.cl 275 y5.2.2.2.2 (d := some 53) (ls := []) [0, 1, 2, 3, 4, 11, 12, 13, 53] (K93 p0 p1 p2 p3 p4 y5 y5.2.2.2.1 x6 [(53, vB r10)]) (uz hr) (by kernel_rfl) (by kernel_rfl) (by kernel_rfl) <| OQk.G 2 (K93 p0 p1 p2 p3 p4 y5 y5.2.2.2.1 x6 [(55, vB (!r10))]) ?_
    refine OQk.case (!r10) (fun b => (sp 275 (K93 p0 p1 p2 p3 p4 y5 y5.2.2.2.1 x6 [(55, vB b)]) y5.2.2.2.2)) (by kernel_rfl) (fun hc => ?_) (fun hc => ?_)
    ·replace h := an hc h
     refine OQk.G 8 (K93 p0 p1 p2 p3 p4 y5 y5.2.2.2.1 x6 [(63, vB true)]) <| OQk.done (by kernel_rfl) ?_
     exact ⟨true, [], by kernel_rfl, h⟩
    ·replace h := ao hc h
     refine OQk.G 5 (K93 p0 p1 p2 p3 p4 y5 y5.2.2.2.1 x6 [(55, vB false), (57, vI x6.Number), (60, .d (.ptr p0 4))]) ?_
     obtain ⟨x11, hx, h⟩ := aa h
     refine OQk.on 275 y5.2.2.2.2 (d := some 61) (s := vI x11) [0, 1, 2, 3, 4, 11, 12, 13, 55, 57, 61] (K93 p0 p1 p2 p3 p4 y5 y5.2.2.2.1 x6 [(55, vB false), (57, vI x6.Number), (61, vI x11)]) (BAt.ldH (c := (cI .i64).cell) hx (by kernel_rfl)) (by kernel_rfl) <| OQk.G 2 (K93 p0 p1 p2 p3 p4 y5 y5.2.2.2.1 x6 [(63, Cb x6 x11)]) <| OQk.done (by kernel_rfl) ?_
     exact ⟨(decide (x6.Number > x11)), [], by kernel_rfl, h⟩
  ·replace h := ao hc h
   refine SW.K (K0 p0 p1 p2 p3 p4 [(11, eW y5)]) <| SW.exit <| aJ ?_
   cases h
   refine aJ ?_
   exact ⟨_, rfl, .inl ⟨(y5.1, y5.2.1, y5.2.2.1, y5.2.2.2.2), rfl, rfl, rfl⟩⟩
 ·rintro _ _ (⟨v25, rfl, rfl, rfl⟩ | ⟨r84, rfl, rfl, hE⟩)
  ·replace h := dO h
   refine aT <| ad <| SW.seq <| SW.R 1 (K68 p0 p1 p2 p3 p4 v25 [(15, vI 0)]) <| SW.block ?_
   obtain ⟨z49, hit, h⟩ := aa h
   refine SW.itH 275 [0, 1, 2, 3, 4, 11, 15] (fun y26 => (K88 p0 p1 p2 p3 p4 y26.1 y26.2.1 y26.2.2.1 [(15, vI y26.2.2.2.1)])) (fun y26 => y26.2.2.2.2) (fun b e s => ((∃ v50, b = (.inl v50) ∧ (e = .exit 4 ∧ s = (sp 275 (K88 p0 p1 p2 p3 p4 v50.1 v50.2.1 v50.2.2.1 []) v50.2.2.2))) ∨ (∃ r83, b = (.inr r83) ∧ (e = .ret ∧ aA Try.prog Try.f28.results.toList r83.2 (vB r83.1) .ret s)))) hit (by kernel_rfl) (fun y26 o h => ?_) ?_
   ·unfold cf at h
    refine SW.seq <| SW.S <| OWk.G 3 (K60 p0 p1 p2 p3 p4 y26 y26.2.2.2.1 [(100, vI y26.2.2.2.1), (102, vh y26)]) <| OWk.O (d := some 103) (K60 p0 p1 p2 p3 p4 y26 y26.2.2.2.1 [(100, vI y26.2.2.2.1), (103, BZ y26)]) (BAt.len (enc := ab) (xs := y26.2.1) (by kernel_rfl)) <| OWk.G 1 (K60 p0 p1 p2 p3 p4 y26 y26.2.2.2.1 [(104, B0 y26)]) <| OWk.E ?_
    refine SW.B (decide (y26.2.2.2.1 < (y26.2.1.length : Int))) (fun hc => ?_) (fun hc => ?_)
    ·replace h := an hc h
     refine SW.skip <| ad <| SW.seq <| SW.block <| SW.S <| OWk.G 3 (K60 p0 p1 p2 p3 p4 y26 y26.2.2.2.1 [(108, vh y26), (109, vI y26.2.2.2.1)]) ?_
     obtain ⟨x27, hx, h⟩ := aa h
     refine OWk.O (d := some 110) (s := aO none (Go.Sh.D.cells (ab x27))) (K60 p0 p1 p2 p3 p4 y26 y26.2.2.2.1 [(110, .d (.aR [.list 3 (List.map ag x27.Row), .int .i64 x27.Key, .int .i64 x27.Number]))]) (BAt.index (n := 3) hx (by kernel_rfl)) <| OWk.G 3 (K60 p0 p1 p2 p3 p4 y26 y26.2.2.2.1 [(16, Z76 x27)]) <| OWk.E <| SW.seq <| SW.cw (by kernel_rfl) (by kernel_rfl) <| OQk.G 3 (K60 p0 p1 p2 p3 p4 y26 y26.2.2.2.1 [(16, Z76 x27), (114, AX y26)]) ?_
     refine OQk.case (decide (y26.2.2.2.1 > 0)) (fun b => (sp 275 (K60 p0 p1 p2 p3 p4 y26 y26.2.2.2.1 [(16, Z76 x27), (114, vB b)]) y26.2.2.2.2)) (by kernel_rfl) (fun hc => ?_) (fun hc => ?_)
     ·replace h := an hc h
      refine OQk.G 5 (K60 p0 p1 p2 p3 p4 y26 y26.2.2.2.1 [(16, Z76 x27), (114, vB true), (115, .d (.ptr p0 0)), (117, vh y26), (119, AW y26)]) ?_
      obtain ⟨x28, hx, h⟩ := aa h
      refine OQk.on 275 y26.2.2.2.2 (d := some 120) (s := aO none (Go.Sh.D.cells (ab x28))) [0, 1, 2, 3, 4, 11, 15, 16, 114, 115, 120] (K60 p0 p1 p2 p3 p4 y26 y26.2.2.2.1 [(16, Z76 x27), (114, vB true), (115, .d (.ptr p0 0)), (120, .d (.aR [.list 3 (List.map ag x28.Row), .int .i64 x28.Key, .int .i64 x28.Number]))]) (BAt.index (n := 3) hx (by kernel_rfl)) (by kernel_rfl) <| OQk.G 2 (K60 p0 p1 p2 p3 p4 y26 y26.2.2.2.1 [(16, Z76 x27), (114, vB true), (115, .d (.ptr p0 0)), (121, Z77 x28), (122, Z77 x27)]) ?_
      obtain ⟨r29, hr, h⟩ := aa h
      refine OQk.CR (ls := []) (some 123) (K60 p0 p1 p2 p3 p4 y26 y26.2.2.2.1 [(16, Z76 x27), (114, vB true), (123, vB r29)]) (b8 hr) <| OQk.G 3 (K60 p0 p1 p2 p3 p4 y26 y26.2.2.2.1 [(16, Z76 x27), (126, vB (!r29))]) ?_
      refine OQk.case (!r29) (fun b => (sp 275 (K60 p0 p1 p2 p3 p4 y26 y26.2.2.2.1 [(16, Z76 x27), (126, vB b)]) y26.2.2.2.2)) (by kernel_rfl) (fun hc => ?_) (fun hc => ?_)
      ·replace h := an hc h
       refine OQk.G 25 (K60 p0 p1 p2 p3 p4 y26 y26.2.2.2.1 [(151, vB true)]) <| OQk.done (by kernel_rfl) <| ad <| SW.gH (by kernel_rfl) <| SW.S <| OWk.G 2 (K89 p0 p1 []) ?_
       obtain ⟨r30, hr, h⟩ := aa h
       refine OWk.CH (some 154) [(154, vB r30.1)] (aU hr) <| OWk.G 1 [(10, vB r30.1)] <| OWk.E <| SW.ret <| ax <| af ?_
       cases h
       refine af ?_
       exact ⟨_, rfl, .inr (⟨(r30.1, r30.2), rfl, rfl, aA.ret [] (by kernel_rfl) rfl⟩)⟩
      ·replace h := ao hc h
       refine OQk.G 1 (K60 p0 p1 p2 p3 p4 y26 y26.2.2.2.1 [(16, Z76 x27), (126, vB false), (127, .d (aP ab p3))]) ?_
       refine OQk.jG p3 (fun p => (sp 275 (K60 p0 p1 p2 p p4 y26 y26.2.2.2.1 [(16, Z76 x27), (126, vB false), (127, .d (aP ab p))]) y26.2.2.2.2)) (by kernel_rfl) (fun hp_x31 => ?_) (fun x31 hp_x31 => ?_)
       ·rw [hp_x31] at h
        replace h := iq h
        refine OQk.G 13 (K69 p0 p1 p2 p4 y26 y26.2.2.2.1 x27 p4 []) ?_
        refine OQk.jG p4 (fun p => (sp 275 (K69 p0 p1 p2 p y26 y26.2.2.2.1 x27 p []) y26.2.2.2.2)) (by kernel_rfl) (fun hp_x32 => ?_) (fun x32 hp_x32 => ?_)
        ·rw [hp_x32] at h
         replace h := iq h
         refine OQk.G 11 (K44 p0 p1 p2 [(4, .d (.aL)), (11, eW y26), (15, vI y26.2.2.2.1), (151, vB false)]) <| OQk.done (by kernel_rfl) <| ad <| SW.fh (by kernel_rfl) <| SW.skip <| aH <| ad <| SW.au <| OWk.G 3 (K44 p0 p1 p2 [(4, .d (.aL)), (11, eW y26), (15, ou y26)]) <| OWk.D ?_
         cases h
         exact ⟨(y26.1, y26.2.1, y26.2.2.1, (IntKind.wrap .i64 (y26.2.2.2.1 + 1)), y26.2.2.2.2), rfl, by rw [hp_x31, hp_x32]; kernel_rfl⟩
        ·rw [hp_x32] at h
         replace h := im h
         refine OQk.G 7 (K44 p0 p1 p2 [(4, kF x32), (11, eW y26), (15, vI y26.2.2.2.1), (139, vB false), (142, vB true), (143, .d (.ptr p0 0)), (144, Z77 x27), (147, Z77 x32)]) ?_
         obtain ⟨r33, hr, h⟩ := aa h
         refine OQk.CR (ls := []) (some 148) (K44 p0 p1 p2 [(4, kF x32), (11, eW y26), (15, vI y26.2.2.2.1), (139, vB false), (142, vB true), (148, vB r33)]) (b8 hr) <| OQk.G 3 (K44 p0 p1 p2 [(4, kF x32), (11, eW y26), (15, vI y26.2.2.2.1), (151, vB (!r33))]) <| OQk.done (by kernel_rfl) <| ad ?_
         refine SW.B (!r33) (fun hc => ?_) (fun hc => ?_)
         ·replace h := an hc h
          refine SW.S <| OWk.G 2 (K89 p0 p1 []) ?_
          obtain ⟨r34, hr, h⟩ := aa h
          refine OWk.CH (some 154) [(154, vB r34.1)] (aU hr) <| OWk.G 1 [(10, vB r34.1)] <| OWk.E <| SW.ret <| ax <| af ?_
          cases h
          refine af ?_
          exact ⟨_, rfl, .inr (⟨(r34.1, r34.2), rfl, rfl, aA.ret [] (by kernel_rfl) rfl⟩)⟩
         ·replace h := ao hc h
          refine SW.skip <| aH <| ad <| SW.au <| OWk.G 3 (K44 p0 p1 p2 [(4, kF x32), (11, eW y26), (15, ou y26)]) <| OWk.D ?_
          cases h
          exact ⟨(y26.1, y26.2.1, y26.2.2.1, (IntKind.wrap .i64 (y26.2.2.2.1 + 1)), y26.2.2.2.2), rfl, by rw [hp_x31, hp_x32]; kernel_rfl⟩
       ·rw [hp_x31] at h
        replace h := im h
        refine OQk.G 7 (K20 p0 p1 p2 x31 p4 y26 y26.2.2.2.1 [(16, Z76 x27), (126, vB false), (129, vB true), (130, .d (.ptr p0 0)), (133, Z77 x31), (134, Z77 x27)]) ?_
        obtain ⟨r35, hr, h⟩ := aa h
        refine OQk.CR (ls := []) (some 135) (K20 p0 p1 p2 x31 p4 y26 y26.2.2.2.1 [(16, Z76 x27), (126, vB false), (129, vB true), (135, vB r35)]) (b8 hr) <| OQk.G 4 (K20 p0 p1 p2 x31 p4 y26 y26.2.2.2.1 [(16, Z76 x27), (139, vB (!r35))]) ?_
        refine OQk.case (!r35) (fun b => (sp 275 (K20 p0 p1 p2 x31 p4 y26 y26.2.2.2.1 [(16, Z76 x27), (139, vB b)]) y26.2.2.2.2)) (by kernel_rfl) (fun hc => ?_) (fun hc => ?_)
        ·replace h := an hc h
         refine OQk.G 12 (K20 p0 p1 p2 x31 p4 y26 y26.2.2.2.1 [(151, vB true)]) <| OQk.done (by kernel_rfl) <| ad <| SW.gH (by kernel_rfl) <| SW.S <| OWk.G 2 (K89 p0 p1 []) ?_
         obtain ⟨r36, hr, h⟩ := aa h
         refine OWk.CH (some 154) [(154, vB r36.1)] (aU hr) <| OWk.G 1 [(10, vB r36.1)] <| OWk.E <| SW.ret <| ax <| af ?_
         cases h
         refine af ?_
         exact ⟨_, rfl, .inr (⟨(r36.1, r36.2), rfl, rfl, aA.ret [] (by kernel_rfl) rfl⟩)⟩
        ·replace h := ao hc h
         refine OQk.G 1 (K20 p0 p1 p2 x31 p4 y26 y26.2.2.2.1 [(16, Z76 x27), (139, vB false), (140, .d (aP ab p4))]) ?_
         refine OQk.jG p4 (fun p => (sp 275 (K20 p0 p1 p2 x31 p y26 y26.2.2.2.1 [(16, Z76 x27), (139, vB false), (140, .d (aP ab p))]) y26.2.2.2.2)) (by kernel_rfl) (fun hp_x37 => ?_) (fun x37 hp_x37 => ?_)
         ·rw [hp_x37] at h
          replace h := iq h
          refine OQk.G 11 (K3 p0 p1 [(2, vI p2), (3, kF x31), (4, .d (.aL)), (11, eW y26), (15, vI y26.2.2.2.1), (151, vB false)]) <| OQk.done (by kernel_rfl) <| ad <| SW.fh (by kernel_rfl) <| SW.skip <| aH <| ad <| SW.au <| OWk.G 3 (K3 p0 p1 [(2, vI p2), (3, kF x31), (4, .d (.aL)), (11, eW y26), (15, ou y26)]) <| OWk.D ?_
          cases h
          exact ⟨(y26.1, y26.2.1, y26.2.2.1, (IntKind.wrap .i64 (y26.2.2.2.1 + 1)), y26.2.2.2.2), rfl, by rw [hp_x31, hp_x37]; kernel_rfl⟩
         ·rw [hp_x37] at h
          replace h := im h
          refine OQk.G 7 (K62 p0 p1 p2 x31 x37 y26 [(15, vI y26.2.2.2.1), (139, vB false), (142, vB true), (143, .d (.ptr p0 0)), (144, Z77 x27), (147, Z77 x37)]) ?_
          obtain ⟨r38, hr, h⟩ := aa h
          refine OQk.CR (ls := []) (some 148) (K62 p0 p1 p2 x31 x37 y26 [(15, vI y26.2.2.2.1), (139, vB false), (142, vB true), (148, vB r38)]) (b8 hr) <| OQk.G 3 (K62 p0 p1 p2 x31 x37 y26 [(15, vI y26.2.2.2.1), (151, vB (!r38))]) <| OQk.done (by kernel_rfl) <| ad ?_
          refine SW.B (!r38) (fun hc => ?_) (fun hc => ?_)
          ·replace h := an hc h
           refine SW.S <| OWk.G 2 (K89 p0 p1 []) ?_
           obtain ⟨r39, hr, h⟩ := aa h
           refine OWk.CH (some 154) [(154, vB r39.1)] (aU hr) <| OWk.G 1 [(10, vB r39.1)] <| OWk.E <| SW.ret <| ax <| af ?_
           cases h
           refine af ?_
           exact ⟨_, rfl, .inr (⟨(r39.1, r39.2), rfl, rfl, aA.ret [] (by kernel_rfl) rfl⟩)⟩
          ·replace h := ao hc h
           refine SW.skip <| aH <| ad <| SW.au <| OWk.G 3 (K62 p0 p1 p2 x31 x37 y26 [(15, ou y26)]) <| OWk.D ?_
           cases h
           exact ⟨(y26.1, y26.2.1, y26.2.2.1, (IntKind.wrap .i64 (y26.2.2.2.1 + 1)), y26.2.2.2.2), rfl, by rw [hp_x31, hp_x37]; kernel_rfl⟩
     ·replace h := ao hc h
      refine OQk.G 13 (K60 p0 p1 p2 p3 p4 y26 y26.2.2.2.1 [(16, Z76 x27), (126, vB false), (127, .d (aP ab p3))]) ?_
      refine OQk.jG p3 (fun p => (sp 275 (K60 p0 p1 p2 p p4 y26 y26.2.2.2.1 [(16, Z76 x27), (126, vB false), (127, .d (aP ab p))]) y26.2.2.2.2)) (by kernel_rfl) (fun hp_x40 => ?_) (fun x40 hp_x40 => ?_)
      ·rw [hp_x40] at h
       replace h := iq h
       refine OQk.G 13 (K69 p0 p1 p2 p4 y26 y26.2.2.2.1 x27 p4 []) ?_
       refine OQk.jG p4 (fun p => (sp 275 (K69 p0 p1 p2 p y26 y26.2.2.2.1 x27 p []) y26.2.2.2.2)) (by kernel_rfl) (fun hp_x41 => ?_) (fun x41 hp_x41 => ?_)
       ·rw [hp_x41] at h
        replace h := iq h
        refine OQk.G 11 (K44 p0 p1 p2 [(4, .d (.aL)), (11, eW y26), (15, vI y26.2.2.2.1), (151, vB false)]) <| OQk.done (by kernel_rfl) <| ad <| SW.fh (by kernel_rfl) <| SW.skip <| aH <| ad <| SW.au <| OWk.G 3 (K44 p0 p1 p2 [(4, .d (.aL)), (11, eW y26), (15, ou y26)]) <| OWk.D ?_
        cases h
        exact ⟨(y26.1, y26.2.1, y26.2.2.1, (IntKind.wrap .i64 (y26.2.2.2.1 + 1)), y26.2.2.2.2), rfl, by rw [hp_x40, hp_x41]; kernel_rfl⟩
       ·rw [hp_x41] at h
        replace h := im h
        refine OQk.G 7 (K44 p0 p1 p2 [(4, kF x41), (11, eW y26), (15, vI y26.2.2.2.1), (139, vB false), (142, vB true), (143, .d (.ptr p0 0)), (144, Z77 x27), (147, Z77 x41)]) ?_
        obtain ⟨r42, hr, h⟩ := aa h
        refine OQk.CR (ls := []) (some 148) (K44 p0 p1 p2 [(4, kF x41), (11, eW y26), (15, vI y26.2.2.2.1), (139, vB false), (142, vB true), (148, vB r42)]) (b8 hr) <| OQk.G 3 (K44 p0 p1 p2 [(4, kF x41), (11, eW y26), (15, vI y26.2.2.2.1), (151, vB (!r42))]) <| OQk.done (by kernel_rfl) <| ad ?_
        refine SW.B (!r42) (fun hc => ?_) (fun hc => ?_)
        ·replace h := an hc h
         refine SW.S <| OWk.G 2 (K89 p0 p1 []) ?_
         obtain ⟨r43, hr, h⟩ := aa h
         refine OWk.CH (some 154) [(154, vB r43.1)] (aU hr) <| OWk.G 1 [(10, vB r43.1)] <| OWk.E <| SW.ret <| ax <| af ?_
         cases h
         refine af ?_
         exact ⟨_, rfl, .inr (⟨(r43.1, r43.2), rfl, rfl, aA.ret [] (by kernel_rfl) rfl⟩)⟩
        ·replace h := ao hc h
         refine SW.skip <| aH <| ad <| SW.au <| OWk.G 3 (K44 p0 p1 p2 [(4, kF x41), (11, eW y26), (15, ou y26)]) <| OWk.D ?_
         cases h
         exact ⟨(y26.1, y26.2.1, y26.2.2.1, (IntKind.wrap .i64 (y26.2.2.2.1 + 1)), y26.2.2.2.2), rfl, by rw [hp_x40, hp_x41]; kernel_rfl⟩
      ·rw [hp_x40] at h
       replace h := im h
       refine OQk.G 7 (K20 p0 p1 p2 x40 p4 y26 y26.2.2.2.1 [(16, Z76 x27), (126, vB false), (129, vB true), (130, .d (.ptr p0 0)), (133, Z77 x40), (134, Z77 x27)]) ?_
       obtain ⟨r44, hr, h⟩ := aa h
       refine OQk.CR (ls := []) (some 135) (K20 p0 p1 p2 x40 p4 y26 y26.2.2.2.1 [(16, Z76 x27), (126, vB false), (129, vB true), (135, vB r44)]) (b8 hr) <| OQk.G 4 (K20 p0 p1 p2 x40 p4 y26 y26.2.2.2.1 [(16, Z76 x27), (139, vB (!r44))]) ?_
       refine OQk.case (!r44) (fun b => (sp 275 (K20 p0 p1 p2 x40 p4 y26 y26.2.2.2.1 [(16, Z76 x27), (139, vB b)]) y26.2.2.2.2)) (by kernel_rfl) (fun hc => ?_) (fun hc => ?_)
       ·replace h := an hc h
        refine OQk.G 12 (K20 p0 p1 p2 x40 p4 y26 y26.2.2.2.1 [(151, vB true)]) <| OQk.done (by kernel_rfl) <| ad <| SW.gH (by kernel_rfl) <| SW.S <| OWk.G 2 (K89 p0 p1 []) ?_
        obtain ⟨r45, hr, h⟩ := aa h
        refine OWk.CH (some 154) [(154, vB r45.1)] (aU hr) <| OWk.G 1 [(10, vB r45.1)] <| OWk.E <| SW.ret <| ax <| af ?_
        cases h
        refine af ?_
        exact ⟨_, rfl, .inr (⟨(r45.1, r45.2), rfl, rfl, aA.ret [] (by kernel_rfl) rfl⟩)⟩
       ·replace h := ao hc h
        refine OQk.G 1 (K20 p0 p1 p2 x40 p4 y26 y26.2.2.2.1 [(16, Z76 x27), (139, vB false), (140, .d (aP ab p4))]) ?_
        refine OQk.jG p4 (fun p => (sp 275 (K20 p0 p1 p2 x40 p y26 y26.2.2.2.1 [(16, Z76 x27), (139, vB false), (140, .d (aP ab p))]) y26.2.2.2.2)) (by kernel_rfl) (fun hp_x46 => ?_) (fun x46 hp_x46 => ?_)
        ·rw [hp_x46] at h
         replace h := iq h
         refine OQk.G 11 (K3 p0 p1 [(2, vI p2), (3, kF x40), (4, .d (.aL)), (11, eW y26), (15, vI y26.2.2.2.1), (151, vB false)]) <| OQk.done (by kernel_rfl) <| ad <| SW.fh (by kernel_rfl) <| SW.skip <| aH <| ad <| SW.au <| OWk.G 3 (K3 p0 p1 [(2, vI p2), (3, kF x40), (4, .d (.aL)), (11, eW y26), (15, ou y26)]) <| OWk.D ?_
         cases h
         exact ⟨(y26.1, y26.2.1, y26.2.2.1, (IntKind.wrap .i64 (y26.2.2.2.1 + 1)), y26.2.2.2.2), rfl, by rw [hp_x40, hp_x46]; kernel_rfl⟩
        ·rw [hp_x46] at h
         replace h := im h
         refine OQk.G 7 (K62 p0 p1 p2 x40 x46 y26 [(15, vI y26.2.2.2.1), (139, vB false), (142, vB true), (143, .d (.ptr p0 0)), (144, Z77 x27), (147, Z77 x46)]) ?_
         obtain ⟨r47, hr, h⟩ := aa h
         refine OQk.CR (ls := []) (some 148) (K62 p0 p1 p2 x40 x46 y26 [(15, vI y26.2.2.2.1), (139, vB false), (142, vB true), (148, vB r47)]) (b8 hr) <| OQk.G 3 (K62 p0 p1 p2 x40 x46 y26 [(15, vI y26.2.2.2.1), (151, vB (!r47))]) <| OQk.done (by kernel_rfl) <| ad ?_
         refine SW.B (!r47) (fun hc => ?_) (fun hc => ?_)
         ·replace h := an hc h
          refine SW.S <| OWk.G 2 (K89 p0 p1 []) ?_
          obtain ⟨r48, hr, h⟩ := aa h
          refine OWk.CH (some 154) [(154, vB r48.1)] (aU hr) <| OWk.G 1 [(10, vB r48.1)] <| OWk.E <| SW.ret <| ax <| af ?_
          cases h
          refine af ?_
          exact ⟨_, rfl, .inr (⟨(r48.1, r48.2), rfl, rfl, aA.ret [] (by kernel_rfl) rfl⟩)⟩
         ·replace h := ao hc h
          refine SW.skip <| aH <| ad <| SW.au <| OWk.G 3 (K62 p0 p1 p2 x40 x46 y26 [(15, ou y26)]) <| OWk.D ?_
          cases h
          exact ⟨(y26.1, y26.2.1, y26.2.2.1, (IntKind.wrap .i64 (y26.2.2.2.1 + 1)), y26.2.2.2.2), rfl, by rw [hp_x40, hp_x46]; kernel_rfl⟩
    ·replace h := ao hc h
     refine SW.K (K0 p0 p1 p2 p3 p4 [(11, eW y26)]) <| SW.exit <| aJ ?_
     cases h
     refine aJ ?_
     exact ⟨_, rfl, .inl ⟨(y26.1, y26.2.1, y26.2.2.1, y26.2.2.2.2), rfl, rfl, rfl⟩⟩
   ·rintro _ _ (⟨v50, rfl, rfl, rfl⟩ | ⟨r83, rfl, rfl, hE⟩)
    ·replace h := dO h
     refine aT <| ad <| SW.S <| OWk.G 3 (K68 p0 p1 p2 p3 p4 v50 [(157, .d (.ptr p0 3))]) ?_
     obtain ⟨x51, hx, h⟩ := aa h
     refine OWk.O (d := some 158) (s := vI x51) (K68 p0 p1 p2 p3 p4 v50 [(158, vI x51)]) (BAt.ldH (c := (cI .i64).cell) hx (by kernel_rfl)) <| OWk.G 2 (K68 p0 p1 p2 p3 p4 v50 [(17, AY x51)]) <| OWk.E ?_
     obtain ⟨jp53, hjjp53, h⟩ := bt h
     refine SW.jn 275 v50.2.2.2 [0, 1, 2, 3, 4, 11, 17] (fun (j52 : Int) => (K68 p0 p1 p2 p3 p4 v50 [(17, vI j52)])) (fun v => jp53 v = some r) (fun j52 h => ?_) ?_
     ·rw [hjjp53] at h
      refine SW.S <| OWk.G 2 (K68 p0 p1 p2 p3 p4 v50 [(17, vI j52), (166, wT v50)]) <| OWk.O (d := some 167) (K68 p0 p1 p2 p3 p4 v50 [(17, vI j52), (167, wS v50)]) (BAt.len (enc := ab) (xs := v50.2.1) (by kernel_rfl)) <| OWk.G 2 (K68 p0 p1 p2 p3 p4 v50 [(17, vI j52), (18, BU v50)]) <| OWk.E ?_
      obtain ⟨jp55, hjjp55, h⟩ := bt h
      refine SW.jn 275 v50.2.2.2 [0, 1, 2, 3, 4, 11, 17, 18] (fun (j54 : Int) => (K68 p0 p1 p2 p3 p4 v50 [(17, vI j52), (18, vI j54)])) (fun v => jp55 v = some r) (fun j54 h => ?_) ?_
      ·rw [hjjp55] at h
       obtain ⟨jp57, hjjp57, h⟩ := bt h
       refine SW.jn 275 v50.2.2.2 [0, 1, 3, 4, 11] (fun (j56 : Unit) => (K5 p0 p1 p3 p4 v50 [])) (fun v => jp57 v = some r) (fun j56 h => ?_) ?_
       ·rw [hjjp57] at h
        refine SW.seq <| SW.R 1 (K5 p0 p1 p3 p4 v50 [(19, vI 0)]) <| SW.block ?_
        obtain ⟨z80, hit, h⟩ := aa h
        refine SW.itH 275 [0, 1, 3, 4, 11, 19] (fun y64 => (K91 p0 p1 p3 p4 v50 y64.1 [])) (fun y64 => y64.2) (fun b e s => ((∃ v81, b = (.inl v81) ∧ (e = .exit 6 ∧ s = (sp 275 [] v81))) ∨ (∃ r82, b = (.inr r82) ∧ (e = .ret ∧ aA Try.prog Try.f28.results.toList r82.2 (vB r82.1) .ret s)))) hit (by kernel_rfl) (fun y64 o h => ?_) ?_
        ·unfold bB at h
         refine SW.seq <| SW.S <| OWk.G 3 (K91 p0 p1 p3 p4 v50 y64.1 [(212, vI y64.1), (214, yB v50)]) <| OWk.O (d := some 215) (K91 p0 p1 p3 p4 v50 y64.1 [(212, vI y64.1), (215, AP v50)]) (BAt.len (enc := (D.int .i64)) (xs := v50.2.2.1) (by kernel_rfl)) <| OWk.G 1 (K91 p0 p1 p3 p4 v50 y64.1 [(216, Df y64 v50)]) <| OWk.E ?_
         refine SW.B (decide (y64.1 < (v50.2.2.1.length : Int))) (fun hc => ?_) (fun hc => ?_)
         ·replace h := an hc h
          refine SW.skip <| ad <| SW.seq <| SW.block <| SW.seq ?_
          obtain ⟨jp66, hjjp66, h⟩ := bt h
          refine SW.jn 275 y64.2 [0, 1, 3, 4, 11, 19, 240] (fun (j65 : Bool) => (K91 p0 p1 p3 p4 v50 y64.1 [(240, vB j65)])) (fun v => jp66 v = some o) (fun j65 h => ?_) ?_
          ·rw [hjjp66] at h
           refine SW.B j65 (fun hc => ?_) (fun hc => ?_)
           ·replace h := an hc h
            refine SW.S <| OWk.G 2 [(241, .d (.ptr p0 0)), (242, vI p1)] ?_
            obtain ⟨r71, hr, h⟩ := aa h
            refine OWk.CH (some 243) [(243, vB r71.1)] (aU hr) <| OWk.G 1 [(10, vB r71.1)] <| OWk.E <| SW.ret <| af <| ax <| af ?_
            cases h
            refine af ?_
            exact ⟨_, rfl, .inr (⟨(r71.1, r71.2), rfl, rfl, aA.ret [] (by kernel_rfl) rfl⟩)⟩
           ·replace h := ao hc h
            refine SW.skip <| ad <| SW.R 1 (K43 p0 p1 p3 p4 v50 y64.1 p3 p4 []) ?_
            obtain ⟨jp73, hjjp73, h⟩ := bt h
            refine SW.jn 275 y64.2 [0, 1, 3, 4, 11, 19, 20, 21] (fun (j72 : (Option Entry)) => (K43 p0 p1 p3 p4 v50 y64.1 j72 p4 [])) (fun v => jp73 v = some o) (fun j72 h => ?_) ?_
            ·rw [hjjp73] at h
             obtain ⟨jp76, hjjp76, h⟩ := bt h
             refine SW.jn 275 y64.2 [0, 1, 3, 4, 11, 19, 20, 21] (fun (j75 : (Option Entry)) => (K43 p0 p1 p3 p4 v50 y64.1 j72 j75 [])) (fun v => jp76 v = some o) (fun j75 h => ?_) ?_
             ·rw [hjjp76] at h
              refine SW.seq <| SW.fD 11 (by kernel_rfl) (by kernel_rfl) <| OBk.G 4 (K43 p0 p1 p3 p4 v50 y64.1 j72 j75 [(262, .d (.ptr p0 0)), (264, yB v50), (265, vI y64.1)]) ?_
              obtain ⟨x78, hx, h⟩ := aa h
              refine OBk.O (d := some 266) (s := aO none (Go.Sh.D.cells ((D.int .i64) x78))) (K43 p0 p1 p3 p4 v50 y64.1 j72 j75 [(262, .d (.ptr p0 0)), (266, .d (.aR [.int .i64 x78]))]) (BAt.index (n := 1) hx (by kernel_rfl)) <| OBk.G 6 (K91 p0 p1 p3 p4 v50 y64.1 [(262, .d (.ptr p0 0)), (267, vI x78), (270, Dg v50), (271, .d (aP ab j72)), (272, .d (aP ab j75))]) <| OBk.done (by kernel_rfl) ?_
              obtain ⟨r79, hr, h⟩ := aa h
              refine OWk.CH (some 273) (K91 p0 p1 p3 p4 v50 y64.1 [(273, vB r79.1)]) (ih hr) <| OWk.G 1 (K91 p0 p1 p3 p4 v50 y64.1 [(274, vB (!r79.1))]) <| OWk.E ?_
              refine SW.B (!r79.1) (fun hc => ?_) (fun hc => ?_)
              ·replace h := an hc h
               refine SW.R 1 [(10, vB false)] <| SW.ret <| ax <| af ?_
               cases h
               refine af ?_
               exact ⟨_, rfl, .inr (⟨(false, r79.2), rfl, rfl, aA.ret [] (by kernel_rfl) rfl⟩)⟩
              ·replace h := ao hc h
               refine SW.skip <| aH <| ad <| SW.au <| OWk.G 3 (K5 p0 p1 p3 p4 v50 [(19, wV y64)]) <| OWk.D ?_
               cases h
               exact ⟨((IntKind.wrap .i64 (y64.1 + 1)), r79.2), rfl, by kernel_rfl⟩
             ·refine SW.S <| OWk.G 3 (K43 p0 p1 p3 p4 v50 y64.1 j72 p4 [(253, vI y64.1), (255, wT v50)]) <| OWk.O (d := some 256) (K43 p0 p1 p3 p4 v50 y64.1 j72 p4 [(253, vI y64.1), (256, wS v50)]) (BAt.len (enc := ab) (xs := v50.2.1) (by kernel_rfl)) <| OWk.G 1 (K43 p0 p1 p3 p4 v50 y64.1 j72 p4 [(257, Dc y64 v50)]) <| OWk.E ?_
              refine SW.B (decide (y64.1 < (v50.2.1.length : Int))) (fun hc => ?_) (fun hc => ?_)
              ·replace h := an hc h
               refine SW.au <| OWk.G 3 (K91 p0 p1 p3 p4 v50 y64.1 [(20, .d (aP ab j72)), (259, wT v50), (260, vI y64.1)]) ?_
               obtain ⟨x77, hx, h⟩ := aa h
               refine OWk.O (d := some 261) (s := aO none (Go.Sh.D.cells (ab x77))) (K91 p0 p1 p3 p4 v50 y64.1 [(20, .d (aP ab j72)), (261, .d (.aR [.list 3 (List.map ag x77.Row), .int .i64 x77.Key, .int .i64 x77.Number]))]) (BAt.index (n := 3) hx (by kernel_rfl)) <| OWk.G 1 (K91 p0 p1 p3 p4 v50 y64.1 [(20, .d (aP ab j72)), (21, kF x77)]) <| OWk.D ?_
               exact ⟨(some x77), [], by kernel_rfl, h⟩
              ·replace h := ao hc h
               refine SW.skip ?_
               exact ⟨p4, [], by kernel_rfl, h⟩
            ·refine SW.R 1 (K43 p0 p1 p3 p4 v50 y64.1 p3 p4 [(247, vB (decide (y64.1 > 0)))]) ?_
             refine SW.B (decide (y64.1 > 0)) (fun hc => ?_) (fun hc => ?_)
             ·replace h := an hc h
              refine SW.au <| OWk.G 4 (K91 p0 p1 p3 p4 v50 y64.1 [(21, .d (aP ab p4)), (249, wT v50), (251, De y64)]) ?_
              obtain ⟨x74, hx, h⟩ := aa h
              refine OWk.O (d := some 252) (s := aO none (Go.Sh.D.cells (ab x74))) (K91 p0 p1 p3 p4 v50 y64.1 [(21, .d (aP ab p4)), (252, .d (.aR [.list 3 (List.map ag x74.Row), .int .i64 x74.Key, .int .i64 x74.Number]))]) (BAt.index (n := 3) hx (by kernel_rfl)) <| OWk.G 1 (K91 p0 p1 p3 p4 v50 y64.1 [(20, kF x74), (21, .d (aP ab p4))]) <| OWk.D ?_
              exact ⟨(some x74), [], by kernel_rfl, h⟩
             ·replace h := ao hc h
              refine SW.skip ?_
              exact ⟨p3, [], by kernel_rfl, h⟩
          ·refine SW.gz (by kernel_rfl) (by kernel_rfl) <| OBk.G 3 (K91 p0 p1 p3 p4 v50 y64.1 [(220, yB v50), (221, vI y64.1)]) ?_
           obtain ⟨x67, hx, h⟩ := aa h
           refine OBk.O (d := some 222) (s := aO none (Go.Sh.D.cells ((D.int .i64) x67))) (K91 p0 p1 p3 p4 v50 y64.1 [(222, .d (.aR [.int .i64 x67]))]) (BAt.index (n := 1) hx (by kernel_rfl)) <| OBk.G 4 (K91 p0 p1 p3 p4 v50 y64.1 [(223, vI x67), (226, .d (.ptr p0 6))]) ?_
           obtain ⟨x68, hx, h⟩ := aa h
           refine OBk.O (d := some 227) (s := vI x68) (K91 p0 p1 p3 p4 v50 y64.1 [(223, vI x67), (227, vI x68)]) (BAt.ldH (c := (cI .i64).cell) hx (by kernel_rfl)) <| OBk.G 2 (K91 p0 p1 p3 p4 v50 y64.1 [(229, vB (x67 != x68))]) ?_
           refine OBk.case (x67 != x68) (fun b => (sp 275 (K91 p0 p1 p3 p4 v50 y64.1 [(229, vB b)]) y64.2)) (by kernel_rfl) (fun hc => ?_) (fun hc => ?_)
           ·replace h := an hc h
            refine OBk.G 11 (K91 p0 p1 p3 p4 v50 y64.1 [(240, vB true)]) <| OBk.done (by kernel_rfl) ?_
            exact ⟨true, [], by kernel_rfl, h⟩
           ·replace h := ao hc h
            refine OBk.G 3 (K91 p0 p1 p3 p4 v50 y64.1 [(229, vB false), (232, .d (.ptr p0 6))]) ?_
            obtain ⟨x69, hx, h⟩ := aa h
            refine OBk.O (d := some 233) (s := vI x69) (K91 p0 p1 p3 p4 v50 y64.1 [(229, vB false), (233, vI x69)]) (BAt.ldH (c := (cI .i64).cell) hx (by kernel_rfl)) <| OBk.G 3 (K91 p0 p1 p3 p4 v50 y64.1 [(229, vB false), (233, vI x69), (236, .d (.ptr p0 5))]) ?_
            obtain ⟨x70, hx, h⟩ := aa h
            refine OBk.O (d := some 237) (s := .bf (.ai p0 5) 3 (List.map aI x70)) (K91 p0 p1 p3 p4 v50 y64.1 [(229, vB false), (233, vI x69), (237, AS p0 x70)]) (BAt.ldL (c := jI) hx (by kernel_rfl)) <| OBk.O (d := some 238) (K91 p0 p1 p3 p4 v50 y64.1 [(229, vB false), (233, vI x69), (238, vI (x70.length : Int))]) (BAt.len (enc := aI) (xs := x70) (by kernel_rfl)) <| OBk.G 2 (K91 p0 p1 p3 p4 v50 y64.1 [(240, A0 x69 x70)]) <| OBk.done (by kernel_rfl) ?_
            exact ⟨(decide (x69 ≥ (x70.length : Int))), [], by kernel_rfl, h⟩
         ·replace h := ao hc h
          refine SW.K [] <| SW.exit <| aJ ?_
          cases h
          refine aJ ?_
          exact ⟨_, rfl, .inl ⟨y64.2, rfl, rfl, rfl⟩⟩
        ·rintro _ _ (⟨v81, rfl, rfl, rfl⟩ | ⟨r82, rfl, rfl, hE⟩)
         ·replace h := dO h
          refine aT <| ad <| SW.R 1 [(10, vB true)] <| SW.ret ?_
          cases h
          exact aA.ret [] (by kernel_rfl) rfl
         ·replace h := dN h
          refine ax <| af ?_
          cases h
          exact hE
       ·refine SW.seq <| SW.gz (by kernel_rfl) (by kernel_rfl) <| OBk.G 2 (K68 p0 p1 p2 p3 p4 v50 [(17, vI j52), (18, vI j54), (173, wT v50)]) <| OBk.O (d := some 174) (K68 p0 p1 p2 p3 p4 v50 [(17, vI j52), (18, vI j54), (174, wS v50)]) (BAt.len (enc := ab) (xs := v50.2.1) (by kernel_rfl)) <| OBk.G 3 (K68 p0 p1 p2 p3 p4 v50 [(17, vI j52), (18, vI j54), (174, wS v50), (177, .d (.ptr p0 3))]) ?_
        obtain ⟨x58, hx, h⟩ := aa h
        refine OBk.O (d := some 178) (s := vI x58) (K68 p0 p1 p2 p3 p4 v50 [(17, vI j52), (18, vI j54), (174, wS v50), (178, vI x58)]) (BAt.ldH (c := (cI .i64).cell) hx (by kernel_rfl)) <| OBk.G 2 (K68 p0 p1 p2 p3 p4 v50 [(17, vI j52), (18, vI j54), (180, Dj v50 x58)]) ?_
        refine OBk.case (decide ((v50.2.1.length : Int) > x58)) (fun b => (sp 275 (K68 p0 p1 p2 p3 p4 v50 [(17, vI j52), (18, vI j54), (180, vB b)]) v50.2.2.2)) (by kernel_rfl) (fun hc => ?_) (fun hc => ?_)
        ·replace h := an hc h
         refine OBk.G 28 (K5 p0 p1 p3 p4 v50 [(208, vB true)]) <| OBk.done (by kernel_rfl) <| ad <| SW.gH (by kernel_rfl) <| SW.S <| OWk.G 2 [(209, .d (.ptr p0 0)), (210, vI p1)] ?_
         obtain ⟨r59, hr, h⟩ := aa h
         refine OWk.CH (some 211) [(211, vB r59.1)] (aU hr) <| OWk.G 1 [(10, vB r59.1)] <| OWk.E <| SW.ret <| af ?_
         cases h
         exact aA.ret [] (by kernel_rfl) rfl
        ·replace h := ao hc h
         refine OBk.G 2 (K68 p0 p1 p2 p3 p4 v50 [(17, vI j52), (18, vI j54), (180, vB false), (182, wT v50)]) <| OBk.O (d := some 183) (K68 p0 p1 p2 p3 p4 v50 [(17, vI j52), (18, vI j54), (180, vB false), (183, wS v50)]) (BAt.len (enc := ab) (xs := v50.2.1) (by kernel_rfl)) <| OBk.G 4 (K68 p0 p1 p2 p3 p4 v50 [(18, vI j54), (187, Di v50 j52)]) <| OBk.mg 275 v50.2.2.2 [0, 1, 2, 3, 4, 11, 18, 191] 4 (decide ((v50.2.1.length : Int) < j52)) (fun b => (sp 275 (K68 p0 p1 p2 p3 p4 v50 [(18, vI j54), (187, vB b)]) v50.2.2.2)) (fun b => (K68 p0 p1 p2 p3 p4 v50 [(18, vI j54), (191, vB (b || (decide (v50.1 < 0))))])) (by kernel_rfl) (by kernel_rfl) (by kernel_rfl) (by kernel_rfl) <| OBk.G 1 (K68 p0 p1 p2 p3 p4 v50 [(18, vI j54), (192, Dh v50 j52)]) ?_
         refine OBk.case ((decide ((v50.2.1.length : Int) < j52)) || (decide (v50.1 < 0))) (fun b => (sp 275 (K68 p0 p1 p2 p3 p4 v50 [(18, vI j54), (192, vB b)]) v50.2.2.2)) (by kernel_rfl) (fun hc => ?_) (fun hc => ?_)
         ·replace h := an hc h
          refine OBk.G 16 (K5 p0 p1 p3 p4 v50 [(208, vB true)]) <| OBk.done (by kernel_rfl) <| ad <| SW.gH (by kernel_rfl) <| SW.S <| OWk.G 2 [(209, .d (.ptr p0 0)), (210, vI p1)] ?_
          obtain ⟨r60, hr, h⟩ := aa h
          refine OWk.CH (some 211) [(211, vB r60.1)] (aU hr) <| OWk.G 1 [(10, vB r60.1)] <| OWk.E <| SW.ret <| af ?_
          cases h
          exact aA.ret [] (by kernel_rfl) rfl
         ·replace h := ao hc h
          refine OBk.G 3 (K68 p0 p1 p2 p3 p4 v50 [(18, vI j54), (192, vB false), (195, vB (decide (p2 ≥ 0)))]) ?_
          refine OBk.case (decide (p2 ≥ 0)) (fun b => (sp 275 (K68 p0 p1 p2 p3 p4 v50 [(18, vI j54), (192, vB false), (195, vB b)]) v50.2.2.2)) (by kernel_rfl) (fun hc => ?_) (fun hc => ?_)
          ·replace h := an hc h
           refine OBk.G 7 (K5 p0 p1 p3 p4 v50 [(18, vI j54), (202, vB (v50.1 != p2))]) ?_
           refine OBk.case (v50.1 != p2) (fun b => (sp 275 (K5 p0 p1 p3 p4 v50 [(18, vI j54), (202, vB b)]) v50.2.2.2)) (by kernel_rfl) (fun hc => ?_) (fun hc => ?_)
           ·replace h := an hc h
            refine OBk.G 6 (K5 p0 p1 p3 p4 v50 [(208, vB true)]) <| OBk.done (by kernel_rfl) <| ad <| SW.gH (by kernel_rfl) <| SW.S <| OWk.G 2 [(209, .d (.ptr p0 0)), (210, vI p1)] ?_
            obtain ⟨r61, hr, h⟩ := aa h
            refine OWk.CH (some 211) [(211, vB r61.1)] (aU hr) <| OWk.G 1 [(10, vB r61.1)] <| OWk.E <| SW.ret <| af ?_
            cases h
            exact aA.ret [] (by kernel_rfl) rfl
           ·replace h := ao hc h
            refine OBk.G 2 (K5 p0 p1 p3 p4 v50 [(18, vI j54), (202, vB false), (204, yB v50)]) <| OBk.O (d := some 205) (K5 p0 p1 p3 p4 v50 [(18, vI j54), (202, vB false), (205, AP v50)]) (BAt.len (enc := (D.int .i64)) (xs := v50.2.2.1) (by kernel_rfl)) <| OBk.G 3 (K5 p0 p1 p3 p4 v50 [(208, BT v50 j54)]) <| OBk.done (by kernel_rfl) <| ad ?_
            refine SW.B ((v50.2.2.1.length : Int) != j54) (fun hc => ?_) (fun hc => ?_)
            ·replace h := an hc h
             refine SW.S <| OWk.G 2 [(209, .d (.ptr p0 0)), (210, vI p1)] ?_
             obtain ⟨r62, hr, h⟩ := aa h
             refine OWk.CH (some 211) [(211, vB r62.1)] (aU hr) <| OWk.G 1 [(10, vB r62.1)] <| OWk.E <| SW.ret <| af ?_
             cases h
             exact aA.ret [] (by kernel_rfl) rfl
            ·replace h := ao hc h
             refine SW.skip ?_
             exact ⟨(), [], by kernel_rfl, h⟩
          ·replace h := ao hc h
           refine OBk.G 9 (K5 p0 p1 p3 p4 v50 [(18, vI j54), (202, vB false), (204, yB v50)]) <| OBk.O (d := some 205) (K5 p0 p1 p3 p4 v50 [(18, vI j54), (202, vB false), (205, AP v50)]) (BAt.len (enc := (D.int .i64)) (xs := v50.2.2.1) (by kernel_rfl)) <| OBk.G 3 (K5 p0 p1 p3 p4 v50 [(208, BT v50 j54)]) <| OBk.done (by kernel_rfl) <| ad ?_
           refine SW.B ((v50.2.2.1.length : Int) != j54) (fun hc => ?_) (fun hc => ?_)
           ·replace h := an hc h
            refine SW.S <| OWk.G 2 [(209, .d (.ptr p0 0)), (210, vI p1)] ?_
            obtain ⟨r63, hr, h⟩ := aa h
            refine OWk.CH (some 211) [(211, vB r63.1)] (aU hr) <| OWk.G 1 [(10, vB r63.1)] <| OWk.E <| SW.ret <| af ?_
            cases h
            exact aA.ret [] (by kernel_rfl) rfl
           ·replace h := ao hc h
            refine SW.skip ?_
            exact ⟨(), [], by kernel_rfl, h⟩
      ·refine SW.R 1 (K68 p0 p1 p2 p3 p4 v50 [(17, vI j52), (18, BU v50), (171, vB (v50.1 == 0))]) ?_
       refine SW.B (v50.1 == 0) (fun hc => ?_) (fun hc => ?_)
       ·replace h := an hc h
        refine SW.au <| OWk.G 1 (K68 p0 p1 p2 p3 p4 v50 [(17, vI j52), (18, vI 0)]) <| OWk.D ?_
        exact ⟨0, [], by kernel_rfl, h⟩
       ·replace h := ao hc h
        refine SW.skip ?_
        exact ⟨(IntKind.wrap .i64 ((v50.2.1.length : Int) + 1)), [], by kernel_rfl, h⟩
     ·refine SW.R 1 (K68 p0 p1 p2 p3 p4 v50 [(17, AY x51), (161, vB (p1 == 0))]) ?_
      refine SW.B (p1 == 0) (fun hc => ?_) (fun hc => ?_)
      ·replace h := an hc h
       refine SW.R 2 (K68 p0 p1 p2 p3 p4 v50 [(17, vI 0), (164, vB (v50.1 != 0))]) ?_
       refine SW.B (v50.1 != 0) (fun hc => ?_) (fun hc => ?_)
       ·replace h := an hc h
        refine SW.au <| OWk.G 1 (K68 p0 p1 p2 p3 p4 v50 [(17, vI 1)]) <| OWk.D ?_
        exact ⟨1, [], by kernel_rfl, h⟩
       ·replace h := ao hc h
        refine SW.skip ?_
        exact ⟨0, [], by kernel_rfl, h⟩
      ·replace h := ao hc h
       refine SW.skip ?_
       exact ⟨(IntKind.wrap .i64 (Int.tdiv x51 2)), [], by kernel_rfl, h⟩
    ·replace h := dN h
     refine ax <| af ?_
     cases h
     exact hE
  ·replace h := dN h
   refine ax <| af ?_
   cases h
   exact hE
theorem m7 {fuel : Nat} : ∀ {p0 : Nat} {p1 : Int} {p2 : Int} {p3 : (Option Entry)} {p4 : (Option Entry)} {H : Hp} {r : (Bool) × Hp}, bq fuel p0 p1 p2 p3 p4 H = some r → SC Try.prog false 28 [.d (.ptr p0 0), vI p1, vI p2, .d (aP ab p3), .d (aP ab p4)] H (vB r.1) r.2 := by
 induction fuel with
 | zero => intros; rename_i h; exact nomatch (show (none : Option ((Bool) × Hp)) = some _ from h)
 | succ fuel ih => exact fun h => lG ih h
def kQ (fuel : Nat) (p0 : ah) (p1 : Int) (p2 : Int) (p3 : (List Node)) : Option (Int × Int) :=
 (mb fuel p0).bind fun r1 =>
 bif (!r1) then
  some (0, 1)
 else
  bif (((decide (p1 < 3)) || (decide (p1 > 32))) || (decide (p2 < 0))) then
   some (0, 7)
  else
   bif ((p3.length : Int) == 0) then
    some (0, 12)
   else
    (mw [] (.cells [.d (.list 1 (List.map (D.int .i64) p0.aq)), .d (.list 1 (List.map D.bool p0.Down)), .d (.int .i64 p0.Dup), .d (.int .i64 p1), .d (.int .i64 p2), .d (.list 3 (List.map aI p3)), .d (.int .i64 0), .own 1 (List.map (D.int .i64) ([] : List Int)), .d (.int .i64 (-1))])).bind fun q2 =>
    (bq fuel q2.2 0 (-1) none none q2.1).bind fun r3 =>
    bif (!r3.1) then
     (bg (cI .i64).cell r3.2 q2.2 8).bind fun x4 =>
     some (x4, 12)
    else
     (bg (cI .i64).cell r3.2 q2.2 6).bind fun x5 =>
     bif (decide (x5 < (p3.length : Int))) then
      (bg (cI .i64).cell r3.2 q2.2 6).bind fun x6 =>
      some (x6, 12)
     else
      (cp 1 (cI .i64) r3.2 q2.2 7).bind fun x7 =>
      bif (decide ((x7.length : Int) > 500)) then
       some (0, 4)
      else
       some ((-1), 0)
def Db (x0 : ah) (x1 : Int) (x2 : Int) (x3 : (List Node)) : SV := .d (.agg [.list 1 (List.map (D.int .i64) x0.aq), .list 1 (List.map D.bool x0.Down), .int .i64 x0.Dup, .int .i64 x1, .int .i64 x2, .list 3 (List.map aI x3), .int .i64 0, .bW, .int .i64 (-1)])
def Da (x0 : (List Int)) : SV := vB (decide ((x0.length : Int) > 500))
def C9 (x0 : (Hp × Nat)) (x1 : (List Int)) : SV := .bf (.ai x0.2 7) 1 (List.map (D.int .i64) x1)
theorem pc {fuel : Nat} {p0 : ah} {p1 : Int} {p2 : Int} {p3 : (List Node)} {r : Int × Int} (h : kQ fuel p0 p1 p2 p3 = some r) : PC Try.prog 13 [.d (bo p0), vI p1, vI p2, .d (.list 3 (List.map aI p3))] (.tup [vI r.1, vI r.2]) := by
 refine PC.ju Try.func13 rfl (by simp [cU, cC, cD, vI, vB, vS, iS, dp (f := aI) lM]) (by simp [cU, cC, cD, vI, vB, vS]) ?_
 unfold kQ at h
 refine SW.kp 60 [] [0, 1, 2, 3] [(0, Z23 p0), (1, vI p1), (2, vI p2), (3, Z0 p3)] (by kernel_rfl) <| SW.R 1 (K8 p1 p2 p3 p0 []) <| SW.seq <| SW.block <| SW.S <| OWk.G 1 (K8 p1 p2 p3 p0 [(12, Z23 p0)]) ?_
 obtain ⟨r1, hr, h⟩ := aa h
 refine OWk.C0 (some 13) (K8 p1 p2 p3 p0 [(13, vB r1)]) (uA hr) <| OWk.G 2 (K8 p1 p2 p3 p0 [(11, vB (!r1))]) <| OWk.E ?_
 refine SW.B (!r1) (fun hc => ?_) (fun hc => ?_)
 ·replace h := an hc h
  refine SW.R 1 [(8, vI 0), (9, vI 1)] <| SW.ret <| ax <| af ?_
  cases h
  exact gh.ret [] (by kernel_rfl)
 ·replace h := ao hc h
  refine SW.S <| OWk.G 3 (K8 p1 p2 p3 p0 [(18, vB (decide (p1 < 3)))]) <| OWk.M 3 (decide (p1 < 3)) (fun b => (K8 p1 p2 p3 p0 [(18, vB b)])) (fun b => (K8 p1 p2 p3 p0 [(21, vB (b || (decide (p1 > 32))))])) <| OWk.G 1 (K8 p1 p2 p3 p0 [(22, Z38 p1)]) <| OWk.M 3 ((decide (p1 < 3)) || (decide (p1 > 32))) (fun b => (K8 p1 p2 p3 p0 [(22, vB b)])) (fun b => (K8 p1 p2 p3 p0 [(25, vB (b || (decide (p2 < 0))))])) <| OWk.G 1 (K8 p1 p2 p3 p0 [(15, DA p1 p2)]) <| OWk.E ?_
  refine SW.B (((decide (p1 < 3)) || (decide (p1 > 32))) || (decide (p2 < 0))) (fun hc => ?_) (fun hc => ?_)
  ·replace h := an hc h
   refine SW.R 1 [(8, vI 0), (9, vI 7)] <| SW.ret <| ax <| af ?_
   cases h
   exact gh.ret [] (by kernel_rfl)
  ·replace h := ao hc h
   refine SW.S <| OWk.G 1 (K8 p1 p2 p3 p0 [(27, Z0 p3)]) <| OWk.O (d := some 28) (K8 p1 p2 p3 p0 [(28, vI (p3.length : Int))]) (BAt.len (enc := aI) (xs := p3) (by kernel_rfl)) <| OWk.G 2 (K8 p1 p2 p3 p0 [(26, Dz p3)]) <| OWk.E ?_
   refine SW.B ((p3.length : Int) == 0) (fun hc => ?_) (fun hc => ?_)
   ·replace h := an hc h
    refine SW.R 1 [(8, vI 0), (9, vI 12)] <| SW.ret <| ax <| af ?_
    cases h
    exact gh.ret [] (by kernel_rfl)
   ·replace h := ao hc h
    refine SW.skip <| aH <| ad <| SW.S <| OWk.G 5 [(3, Z0 p3), (34, Db p0 p1 p2 p3)] ?_
    obtain ⟨q2, hq, h⟩ := aa h
    refine OWk.iQ 60 q2.1 (d := some 35) (b := false) [(7, 1, true)] [3, 35] [(3, Z0 p3), (35, .d (.ptr q2.2 0))] hq (by kernel_rfl) rfl (by kernel_rfl) <| OWk.G 1 [(3, Z0 p3), (10, .d (.ptr q2.2 0))] <| OWk.E <| SW.seq <| SW.S <| OWk.G 1 [(3, Z0 p3), (10, .d (.ptr q2.2 0)), (36, .d (.ptr q2.2 0))] ?_
    obtain ⟨r3, hr, h⟩ := aa h
    refine OWk.CH (some 37) [(3, Z0 p3), (10, .d (.ptr q2.2 0)), (37, vB r3.1)] (m7 hr) <| OWk.G 1 [(3, Z0 p3), (10, .d (.ptr q2.2 0)), (38, vB (!r3.1))] <| OWk.E ?_
    refine SW.B (!r3.1) (fun hc => ?_) (fun hc => ?_)
    ·replace h := an hc h
     refine SW.S <| OWk.G 3 [(41, .d (.ptr q2.2 8))] ?_
     obtain ⟨x4, hx, h⟩ := aa h
     refine OWk.O (d := some 42) (s := vI x4) [(42, vI x4)] (BAt.ldH (c := (cI .i64).cell) hx (by kernel_rfl)) <| OWk.G 2 [(8, vI x4), (9, vI 12)] <| OWk.E <| SW.ret <| af ?_
     cases h
     exact gh.ret [] (by kernel_rfl)
    ·replace h := ao hc h
     refine SW.skip <| ad <| SW.seq <| SW.S <| OWk.G 3 [(3, Z0 p3), (10, .d (.ptr q2.2 0)), (45, .d (.ptr q2.2 6))] ?_
     obtain ⟨x5, hx, h⟩ := aa h
     refine OWk.O (d := some 46) (s := vI x5) [(3, Z0 p3), (10, .d (.ptr q2.2 0)), (46, vI x5)] (BAt.ldH (c := (cI .i64).cell) hx (by kernel_rfl)) <| OWk.G 1 [(10, .d (.ptr q2.2 0)), (46, vI x5), (47, Z0 p3)] <| OWk.O (d := some 48) [(10, .d (.ptr q2.2 0)), (46, vI x5), (48, vI (p3.length : Int))] (BAt.len (enc := aI) (xs := p3) (by kernel_rfl)) <| OWk.G 1 [(10, .d (.ptr q2.2 0)), (49, B1 x5 p3)] <| OWk.E ?_
     refine SW.B (decide (x5 < (p3.length : Int))) (fun hc => ?_) (fun hc => ?_)
     ·replace h := an hc h
      refine SW.S <| OWk.G 3 [(52, .d (.ptr q2.2 6))] ?_
      obtain ⟨x6, hx, h⟩ := aa h
      refine OWk.O (d := some 53) (s := vI x6) [(53, vI x6)] (BAt.ldH (c := (cI .i64).cell) hx (by kernel_rfl)) <| OWk.G 2 [(8, vI x6), (9, vI 12)] <| OWk.E <| SW.ret <| af ?_
      cases h
      exact gh.ret [] (by kernel_rfl)
     ·replace h := ao hc h
      refine SW.skip <| ad <| SW.seq <| SW.S <| OWk.G 3 [(56, .d (.ptr q2.2 7))] ?_
      obtain ⟨x7, hx, h⟩ := aa h
      refine OWk.O (d := some 57) (s := .bf (.ai q2.2 7) 1 (List.map (D.int .i64) x7)) [(57, C9 q2 x7)] (BAt.ldL (c := (cI .i64)) hx (by kernel_rfl)) <| OWk.O (d := some 58) [(58, vI (x7.length : Int))] (BAt.len (enc := (D.int .i64)) (xs := x7) (by kernel_rfl)) <| OWk.G 1 [(59, Da x7)] <| OWk.E ?_
      refine SW.B (decide ((x7.length : Int) > 500)) (fun hc => ?_) (fun hc => ?_)
      ·replace h := an hc h
       refine SW.R 1 [(8, vI 0), (9, vI 4)] <| SW.ret <| af ?_
       cases h
       exact gh.ret [] (by kernel_rfl)
      ·replace h := ao hc h
       refine SW.skip <| ad <| SW.R 1 [(8, vI (-1)), (9, vI 0)] <| SW.ret ?_
       cases h
       exact gh.ret [] (by kernel_rfl)
structure Tree where
 S : ah
 Order : Int
 All : (List Entry)
 jN : Int
 deriving DecidableEq, Inhabited
def vR (x : Tree) : D := .agg [.list 1 (List.map (D.int .i64) x.S.aq), .list 1 (List.map D.bool x.S.Down), .int .i64 x.S.Dup, .int .i64 x.Order, .list 3 (List.map ab x.All), .int .i64 x.jN]
def cR (fuel : Nat) (rc : ((List Node) → Int → Option ((List Entry)))) (p0 : (List Node)) (x1 : Node) (y2 : (List Entry) × Int) : Option (((List Entry) × Int) ⊕ ((List Entry))) :=
 bif (decide (y2.2 < (x1.Entries.length : Int))) then
  bif (decide ((x1.Kids.length : Int) > 0)) then
   (idx x1.Kids y2.2).bind fun x3 =>
   (rc p0 x3).bind fun r4 =>
   chk (decide ((y2.1 ++ r4).length ≤ room)) <|
   (idx x1.Entries y2.2).bind fun x5 =>
   chk (decide (((y2.1 ++ r4) ++ [x5]).length ≤ room)) <|
   some (.inl (((y2.1 ++ r4) ++ [x5]), (IntKind.wrap .i64 (y2.2 + 1))))
  else
   (idx x1.Entries y2.2).bind fun x6 =>
   chk (decide ((y2.1 ++ [x6]).length ≤ room)) <|
   some (.inl ((y2.1 ++ [x6]), (IntKind.wrap .i64 (y2.2 + 1))))
 else
  some (.inr y2.1)
def dQ (fuel : Nat) (rc : ((List Node) → Int → Option ((List Entry)))) (p0 : (List Node)) (p1 : Int) : Option ((List Entry)) :=
 (idx p0 p1).bind fun x1 =>
 (iter (cR fuel rc p0 x1) fuel (([] : List Entry), 0)).bind fun v8 =>
 bif (decide ((x1.Kids.length : Int) > 0)) then
  (idx x1.Kids (IntKind.wrap .i64 ((x1.Kids.length : Int) - 1))).bind fun x9 =>
  (rc p0 x9).bind fun r10 =>
  chk (decide ((v8 ++ r10).length ≤ room)) <|
  some (v8 ++ r10)
 else
  some v8
def ef : Nat → ((List Node) → Int → Option ((List Entry)))
 | 0 => fun _ _ => none
 | fuel + 1 => dQ fuel (ef fuel)
def C8 (x0 : Int × Hp) (x1 : Node) : SV := vB (decide (x0.1 < (x1.Entries.length : Int)))
def C7 (x0 : Int × Int × Hp) (x1 : (List Node)) : SV := vB (decide (x0.2.1 < (x1.length : Int)))
def zH (x0 : Int × Int × Hp) (x1 : Node) : SV := vI (IntKind.wrap .i64 (x0.1 + (x1.Entries.length : Int)))
def tP (x0 : Int × Int × Hp) (x1 : Node) (x2 : Node) : SV := vI (IntKind.wrap .i64 ((IntKind.wrap .i64 (x0.1 + (x1.Entries.length : Int))) + (x2.Kids.length : Int)))
def C6 (x0 : Int × Int × Hp) : SV := vI (IntKind.wrap .i64 (x0.2.1 + 1))
def C5 (x0 : (List Node)) (x1 : Int × Hp) : SV := vB ((decide ((x0.length : Int) > 40)) || (decide (x1.1 ≥ 200)))
def kE : SV := .box [.d (.bW), .d (.bW), vI 0, vI 0, .d (.bW), vI 0]
def C4 : SV := .box [.d (.list 1 (List.map (D.int .i64) ([] : List Int))), .d (.bW), vI 0, vI 0, .d (.bW), vI 0]
def C3 : SV := .box [.d (.list 1 (List.map (D.int .i64) ([] : List Int))), .d (.list 1 (List.map D.bool ([] : List Bool))), vI 0, vI 0, .d (.bW), vI 0]
def C2 : SV := .box [.d (.list 1 (List.map (D.int .i64) ([] : List Int))), .d (.list 1 (List.map D.bool ([] : List Bool))), vI 0, vI 0, .d (.list 3 (List.map ab ([] : List Entry))), vI 0]
def BS (x0 : Node) : SV := vB (decide ((x0.Kids.length : Int) > 0))
def mH (x0 : (List Entry) × Int) : SV := .own 3 (List.map ab x0.1)
def C1 (x0 : (List Entry) × Int) (x1 : Node) : SV := vB (decide (x0.2 < (x1.Entries.length : Int)))
def yA (x0 : (List Entry) × Int) (x1 : (List Entry)) : SV := .own 3 (List.map ab (x0.1 ++ x1))
def AO (x0 : (List Entry) × Int) (x1 : (List Entry)) (x2 : Entry) : SV := .own 3 (List.map ab ((x0.1 ++ x1) ++ [x2]))
def BR (x0 : (List Entry) × Int) : SV := vI (IntKind.wrap .i64 (x0.2 + 1))
def AN (x0 : (List Entry) × Int) (x1 : Entry) : SV := .own 3 (List.map ab (x0.1 ++ [x1]))
def CZ (x0 : Node) : SV := vI (IntKind.wrap .i64 ((x0.Kids.length : Int) - 1))
def K38 := fun a0 a1 (t : SL) => ((0, Z0 a0) :: (5, eG a1) :: t : SL)
theorem pb {fuel : Nat} {rc : ((List Node) → Int → Option ((List Entry)))} (ih : ∀ {p0 : (List Node)} {p1 : Int} {r : (List Entry)}, rc p0 p1 = some r → PC Try.prog 31 [.d (.list 3 (List.map aI p0)), vI p1] (.own 3 (List.map ab r))) {p0 : (List Node)} {p1 : Int} {r : (List Entry)} (h : dQ fuel rc p0 p1 = some r) : PC Try.prog 31 [.d (.list 3 (List.map aI p0)), vI p1] (.own 3 (List.map ab r)) := by
 refine PC.br Try.func31 rfl fun H => ?_
 unfold dQ at h
 refine SW.kp 57 H [0, 1] [(0, Z0 p0), (1, vI p1)] (by kernel_rfl) <| SW.R 1 [(0, Z0 p0), (1, vI p1)] <| SW.S <| OWk.G 2 [(0, Z0 p0), (8, Z0 p0), (9, vI p1)] ?_
 obtain ⟨x1, hx, h⟩ := aa h
 refine OWk.O (d := some 10) (s := aO none (Go.Sh.D.cells (aI x1))) [(0, Z0 p0), (10, .d (.aR [.int .i64 x1.Level, .list 3 (List.map ab x1.Entries), .list 1 (List.map (D.int .i64) x1.Kids)]))] (BAt.index (n := 3) hx (by kernel_rfl)) <| OWk.G 3 (K38 p0 x1 []) <| OWk.E <| SW.R 1 (K38 p0 x1 [(6, zN)]) <| SW.seq <| SW.R 1 (K38 p0 x1 [(6, zN), (7, vI 0)]) <| SW.block ?_
 obtain ⟨v8, hit, h⟩ := aa h
 refine SW.it 57 H [0, 5, 6, 7] (fun y2 => (K38 p0 x1 [(6, .own 3 (List.map ab y2.1)), (7, vI y2.2)])) (fun v8 e s => (e = .exit 0 ∧ s = (sp 57 (K38 p0 x1 [(6, .own 3 (List.map ab v8))]) H))) hit (by kernel_rfl) (fun y2 o h => ?_) ?_
 ·unfold cR at h
  refine SW.seq <| SW.S <| OWk.G 3 (K38 p0 x1 [(6, mH y2), (7, vI y2.2), (12, vI y2.2), (14, Z3 x1)]) <| OWk.O (d := some 15) (K38 p0 x1 [(6, mH y2), (7, vI y2.2), (12, vI y2.2), (15, Z8 x1)]) (BAt.len (enc := ab) (xs := x1.Entries) (by kernel_rfl)) <| OWk.G 1 (K38 p0 x1 [(6, mH y2), (7, vI y2.2), (16, C1 y2 x1)]) <| OWk.E ?_
  refine SW.B (decide (y2.2 < (x1.Entries.length : Int))) (fun hc => ?_) (fun hc => ?_)
  ·replace h := an hc h
   refine SW.skip <| ad <| SW.seq <| SW.block <| SW.seq <| SW.S <| OWk.G 2 (K38 p0 x1 [(6, mH y2), (7, vI y2.2), (20, Z5 x1)]) <| OWk.O (d := some 21) (K38 p0 x1 [(6, mH y2), (7, vI y2.2), (21, Z7 x1)]) (BAt.len (enc := (D.int .i64)) (xs := x1.Kids) (by kernel_rfl)) <| OWk.G 1 (K38 p0 x1 [(6, mH y2), (7, vI y2.2), (22, BS x1)]) <| OWk.E ?_
   refine SW.B (decide ((x1.Kids.length : Int) > 0)) (fun hc => ?_) (fun hc => ?_)
   ·replace h := an hc h
    refine SW.au <| OWk.sg 57 H [23] [0, 5, 7, 23, 24, 26, 27] 5 (K38 p0 x1 [(7, vI y2.2), (23, mH y2), (24, Z0 p0), (26, Z5 x1), (27, vI y2.2)]) (by kernel_rfl) ?_
    obtain ⟨x3, hx, h⟩ := aa h
    refine OWk.O (d := some 28) (s := aO none (Go.Sh.D.cells ((D.int .i64) x3))) (K38 p0 x1 [(7, vI y2.2), (23, mH y2), (24, Z0 p0), (28, .d (.aR [.int .i64 x3]))]) (BAt.index (n := 1) hx (by kernel_rfl)) <| OWk.sg 57 H [23] [0, 5, 7, 23, 24, 29] 1 (K38 p0 x1 [(7, vI y2.2), (23, mH y2), (24, Z0 p0), (29, vI x3)]) (by kernel_rfl) ?_
    obtain ⟨r4, hr, h⟩ := aa h
    refine OWk.C0 (some 30) (K38 p0 x1 [(7, vI y2.2), (23, mH y2), (30, .own 3 (List.map ab r4))]) (ih hr) ?_
    obtain ⟨hk, h⟩ := bH h
    refine OWk.app 57 H (s := 23) (d := 31) (w := 3) [0, 5, 7, 31] (zs := List.map ab (y2.1 ++ r4)) (K38 p0 x1 [(7, vI y2.2), (31, yA y2 r4)]) (ys := (List.map ab r4)) (by kernel_rfl) (aY) (bY hk) (by kernel_rfl) <| OWk.sg 57 H [23] [0, 5, 6, 7] 1 (K38 p0 x1 [(6, yA y2 r4), (7, vI y2.2)]) (by kernel_rfl) <| OWk.E <| SW.au <| OWk.sg 57 H [32] [0, 5, 7, 32, 34, 35] 4 (K38 p0 x1 [(7, vI y2.2), (32, yA y2 r4), (34, Z3 x1), (35, vI y2.2)]) (by kernel_rfl) ?_
    obtain ⟨x5, hx, h⟩ := aa h
    refine OWk.O (d := some 36) (s := aO none (Go.Sh.D.cells (ab x5))) (K38 p0 x1 [(7, vI y2.2), (32, yA y2 r4), (36, .d (.aR [.list 3 (List.map ag x5.Row), .int .i64 x5.Key, .int .i64 x5.Number]))]) (BAt.index (n := 3) hx (by kernel_rfl)) <| OWk.sg 57 H [32] [0, 5, 7, 32, 38] 2 (K38 p0 x1 [(7, vI y2.2), (32, yA y2 r4), (38, gI x5)]) (by kernel_rfl) ?_
    obtain ⟨hk, h⟩ := bH h
    refine OWk.app 57 H (s := 32) (d := 39) (w := 3) [0, 5, 7, 39] (zs := List.map ab ((y2.1 ++ r4) ++ [x5])) (K38 p0 x1 [(7, vI y2.2), (39, AO y2 r4 x5)]) (ys := (List.map ab [x5])) (by kernel_rfl) (aY) (bY hk) (by kernel_rfl) <| OWk.sg 57 H [32] [0, 5, 6, 7] 1 (K38 p0 x1 [(6, AO y2 r4 x5), (7, vI y2.2)]) (by kernel_rfl) <| OWk.D <| aH <| ad <| SW.au <| OWk.G 3 (K38 p0 x1 [(6, AO y2 r4 x5), (7, BR y2)]) <| OWk.D ?_
    cases h
    exact ⟨(((y2.1 ++ r4) ++ [x5]), (IntKind.wrap .i64 (y2.2 + 1))), rfl, by kernel_rfl⟩
   ·replace h := ao hc h
    refine SW.skip <| ad <| SW.au <| OWk.sg 57 H [32] [0, 5, 7, 32, 34, 35] 4 (K38 p0 x1 [(7, vI y2.2), (32, mH y2), (34, Z3 x1), (35, vI y2.2)]) (by kernel_rfl) ?_
    obtain ⟨x6, hx, h⟩ := aa h
    refine OWk.O (d := some 36) (s := aO none (Go.Sh.D.cells (ab x6))) (K38 p0 x1 [(7, vI y2.2), (32, mH y2), (36, .d (.aR [.list 3 (List.map ag x6.Row), .int .i64 x6.Key, .int .i64 x6.Number]))]) (BAt.index (n := 3) hx (by kernel_rfl)) <| OWk.sg 57 H [32] [0, 5, 7, 32, 38] 2 (K38 p0 x1 [(7, vI y2.2), (32, mH y2), (38, gI x6)]) (by kernel_rfl) ?_
    obtain ⟨hk, h⟩ := bH h
    refine OWk.app 57 H (s := 32) (d := 39) (w := 3) [0, 5, 7, 39] (zs := List.map ab (y2.1 ++ [x6])) (K38 p0 x1 [(7, vI y2.2), (39, AN y2 x6)]) (ys := (List.map ab [x6])) (by kernel_rfl) (aY) (bY hk) (by kernel_rfl) <| OWk.sg 57 H [32] [0, 5, 6, 7] 1 (K38 p0 x1 [(6, AN y2 x6), (7, vI y2.2)]) (by kernel_rfl) <| OWk.D <| aH <| ad <| SW.au <| OWk.G 3 (K38 p0 x1 [(6, AN y2 x6), (7, BR y2)]) <| OWk.D ?_
    cases h
    exact ⟨((y2.1 ++ [x6]), (IntKind.wrap .i64 (y2.2 + 1))), rfl, by kernel_rfl⟩
  ·replace h := ao hc h
   refine SW.K (K38 p0 x1 [(6, mH y2)]) <| SW.exit <| aJ ?_
   cases h
   refine aJ ?_
   exact ⟨_, rfl, ⟨rfl, rfl⟩⟩
 ·rintro _ _ ⟨rfl, rfl⟩
  refine aT <| ad <| SW.seq <| SW.S <| OWk.G 2 (K38 p0 x1 [(6, eI v8), (41, Z5 x1)]) <| OWk.O (d := some 42) (K38 p0 x1 [(6, eI v8), (42, Z7 x1)]) (BAt.len (enc := (D.int .i64)) (xs := x1.Kids) (by kernel_rfl)) <| OWk.G 1 (K38 p0 x1 [(6, eI v8), (43, BS x1)]) <| OWk.E ?_
  refine SW.B (decide ((x1.Kids.length : Int) > 0)) (fun hc => ?_) (fun hc => ?_)
  ·replace h := an hc h
   refine SW.au <| OWk.sg 57 H [44] [44, 45, 47, 49] 6 [(44, eI v8), (45, Z0 p0), (47, Z5 x1), (49, Z5 x1)] (by kernel_rfl) <| OWk.O (d := some 50) [(44, eI v8), (45, Z0 p0), (47, Z5 x1), (50, Z7 x1)] (BAt.len (enc := (D.int .i64)) (xs := x1.Kids) (by kernel_rfl)) <| OWk.sg 57 H [44] [44, 45, 47, 51] 1 [(44, eI v8), (45, Z0 p0), (47, Z5 x1), (51, CZ x1)] (by kernel_rfl) ?_
   obtain ⟨x9, hx, h⟩ := aa h
   refine OWk.O (d := some 52) (s := aO none (Go.Sh.D.cells ((D.int .i64) x9))) [(44, eI v8), (45, Z0 p0), (52, .d (.aR [.int .i64 x9]))] (BAt.index (n := 1) hx (by kernel_rfl)) <| OWk.sg 57 H [44] [44, 45, 53] 1 [(44, eI v8), (45, Z0 p0), (53, vI x9)] (by kernel_rfl) ?_
   obtain ⟨r10, hr, h⟩ := aa h
   refine OWk.C0 (some 54) [(44, eI v8), (54, .own 3 (List.map ab r10))] (ih hr) ?_
   obtain ⟨hk, h⟩ := bH h
   refine OWk.app 57 H (s := 44) (d := 55) (w := 3) [55] (zs := List.map ab (v8 ++ r10)) [(55, yG v8 r10)] (ys := (List.map ab r10)) (by kernel_rfl) (aY) (bY hk) (by kernel_rfl) <| OWk.sg 57 H [44] [6] 1 [(6, yG v8 r10)] (by kernel_rfl) <| OWk.E <| SW.S <| OWk.sg 57 H [56] [4] 2 [(4, yG v8 r10)] (by kernel_rfl) <| OWk.E <| SW.ret ?_
   cases h
   exact aA.ret [] (by kernel_rfl) rfl
  ·replace h := ao hc h
   refine SW.skip <| ad <| SW.S <| OWk.sg 57 H [56] [4] 2 [(4, eI v8)] (by kernel_rfl) <| OWk.E <| SW.ret ?_
   cases h
   exact aA.ret [] (by kernel_rfl) rfl
theorem l9 {fuel : Nat} : ∀ {p0 : (List Node)} {p1 : Int} {r : (List Entry)}, ef fuel p0 p1 = some r → PC Try.prog 31 [.d (.list 3 (List.map aI p0)), vI p1] (.own 3 (List.map ab r)) := by
 induction fuel with
 | zero => intros; rename_i h; exact nomatch (show (none : Option ((List Entry))) = some _ from h)
 | succ fuel ih => exact fun h => pb ih h
def jW (fuel : Nat) (p0 : ah) (p1 : Int) (p2 : Int) (p3 : (List Node)) : Option (Tree × Int × Int) :=
 (kQ fuel p0 p1 p2 p3).bind fun r1 =>
 bif (r1.2 != 0) then
  some ((⟨(⟨([] : List Int), ([] : List Bool), 0⟩ : ah), 0, ([] : List Entry), 0⟩ : Tree), r1.1, r1.2)
 else
  (ef fuel p3 0).bind fun r2 =>
  some ((⟨p0, p1, r2, p2⟩ : Tree), r1.1, 0)
def vg (x0 : ah) (x1 : Int) (x2 : (List Entry)) (x3 : Int) : SV := .box [.d (.list 1 (List.map (D.int .i64) x0.aq)), .d (.list 1 (List.map D.bool x0.Down)), vI x0.Dup, vI x1, .d (.list 3 (List.map ab x2)), vI x3]
def BQ (x0 : ah) (x1 : Int) (x2 : (List Entry)) (x3 : Int) : SV := .d (.agg [.list 1 (List.map (D.int .i64) x0.aq), .list 1 (List.map D.bool x0.Down), .int .i64 x0.Dup, .int .i64 x1, .list 3 (List.map ab x2), .int .i64 x3])
def K98 := fun a0 a1 (t : SL) => ((8, kE) :: (26, Z23 a0) :: (27, vI a1) :: t : SL)
theorem qI {fuel : Nat} {p0 : ah} {p1 : Int} {p2 : Int} {p3 : (List Node)} {r : Tree × Int × Int} (h : jW fuel p0 p1 p2 p3 = some r) : PC Try.prog 15 [.d (bo p0), vI p1, vI p2, .d (.list 3 (List.map aI p3))] (.tup [.d (.agg [.list 1 (List.map (D.int .i64) r.1.S.aq), .list 1 (List.map D.bool r.1.S.Down), .int .i64 r.1.S.Dup, .int .i64 r.1.Order, .list 3 (List.map ab r.1.All), .int .i64 r.1.jN]), vI r.2.1, vI r.2.2]) := by
 refine PC.br Try.func15 rfl fun H => ?_
 unfold jW at h
 refine SW.kp 33 H [0, 1, 2, 3] [(0, Z23 p0), (1, vI p1), (2, vI p2), (3, Z0 p3)] (by kernel_rfl) <| SW.R 1 (K8 p1 p2 p3 p0 [(8, kE)]) <| SW.S <| OWk.G 4 (K8 p1 p2 p3 p0 [(8, kE), (14, Z23 p0), (15, vI p1), (16, vI p2), (17, Z0 p3)]) ?_
 obtain ⟨r1, hr, h⟩ := aa h
 refine OWk.C0 (some 18) (K8 p1 p2 p3 p0 [(8, kE), (18, .tup [vI r1.1, vI r1.2])]) (pc hr) <| OWk.G 5 (K8 p1 p2 p3 p0 [(8, kE), (11, vI r1.1), (12, vI r1.2)]) <| OWk.E <| SW.seq <| SW.R 1 (K8 p1 p2 p3 p0 [(8, kE), (11, vI r1.1), (12, vI r1.2), (22, vB (r1.2 != 0))]) ?_
 refine SW.B (r1.2 != 0) (fun hc => ?_) (fun hc => ?_)
 ·replace h := an hc h
  refine SW.R 1 [(8, kE), (9, vI r1.1), (10, vI r1.2)] <| SW.rN 8 0 1 33 H [8, 9, 10] [(8, C4), (9, vI r1.1), (10, vI r1.2)] (by kernel_rfl) <| SW.rN 8 1 1 33 H [8, 9, 10] [(8, C3), (9, vI r1.1), (10, vI r1.2)] (by kernel_rfl) <| SW.rN 8 4 3 33 H [8, 9, 10] [(8, C2), (9, vI r1.1), (10, vI r1.2)] (by kernel_rfl) <| SW.ret <| af ?_
  cases h
  exact aA.ret [] (by kernel_rfl) rfl
 ·replace h := ao hc h
  refine SW.skip <| ad <| SW.seq ?_
  obtain ⟨r2, hr_3, h⟩ := aa h
  refine SW.K (K8 p1 p2 p3 p0 [(8, kE), (11, vI r1.1)]) ?_
  refine SW.nB 33 H [(8, vg p0 p1 r2 p2), (9, vI r1.1), (10, vI 0)] [1, 2, 4, 6] 6 86 (by kernel_rfl) (by kernel_rfl) (by kernel_rfl) (fun X hX => ?_) ?_
  ·have c1023 : X 0 1023 (sp 33 [(8, vg p0 p1 r2 p2), (9, vI r1.1), (10, vI 0)] H) := by subst hX; exact OX.fin (by kernel_rfl)
   have c511 : X 1 511 (sp 33 [(8, vg p0 p1 r2 p2), (9, vI r1.1)] H) := by
    subst hX
    refine OX.step (i0 := 9) (is := []) (by kernel_rfl) (by kernel_rfl) ⟨?_, trivial⟩
    ·refine OWk.G 1 [(8, vg p0 p1 r2 p2), (9, vI r1.1), (10, vI 0)] <| OWk.D ?_
     exact c1023
   have c255 : X 2 255 (sp 33 [(8, vg p0 p1 r2 p2), (32, vI r1.1)] H) := by
    subst hX
    refine OX.step (i0 := 8) (is := []) (by kernel_rfl) (by kernel_rfl) ⟨?_, trivial⟩
    ·refine OWk.G 1 [(8, vg p0 p1 r2 p2), (9, vI r1.1)] <| OWk.D ?_
     exact c511
   have c127 : X 3 127 (sp 33 [(8, kE), (31, BQ p0 p1 r2 p2), (32, vI r1.1)] H) := by
    subst hX
    refine OX.step (i0 := 7) (is := []) (by kernel_rfl) (by kernel_rfl) ⟨?_, trivial⟩
    ·refine OWk.G 1 [(8, vg p0 p1 r2 p2), (32, vI r1.1)] <| OWk.D ?_
     exact c255
   have c95 : X 4 95 (sp 33 (K98 p0 p1 [(29, eI r2), (30, vI p2), (32, vI r1.1)]) H) := by
    subst hX
    refine OX.step (i0 := 5) (is := []) (by kernel_rfl) (by kernel_rfl) ⟨?_, trivial⟩
    ·refine OWk.fz 33 H 29 [8, 26, 27, 29, 30, 32] (K98 p0 p1 [(29, Z80 r2), (30, vI p2), (32, vI r1.1)]) (by kernel_rfl) <| OWk.G 1 [(8, kE), (31, BQ p0 p1 r2 p2), (32, vI r1.1)] <| OWk.D ?_
     exact c127
   have c87 : X 5 87 (sp 33 (K98 p0 p1 [(28, Z0 p3), (30, vI p2), (32, vI r1.1)]) H) := by
    subst hX
    refine OX.step (i0 := 3) (is := []) (by kernel_rfl) (by kernel_rfl) ⟨?_, trivial⟩
    ·refine OWk.C0 (some 29) (K98 p0 p1 [(29, .own 3 (List.map ab r2)), (30, vI p2), (32, vI r1.1)]) (l9 hr_3) <| OWk.D ?_
     exact c95
   have c94 : X 5 94 (sp 33 [(4, Z1 p0), (8, kE), (27, vI p1), (29, eI r2), (30, vI p2), (32, vI r1.1)] H) := by
    subst hX
    refine OX.step (i0 := 0) (is := []) (by kernel_rfl) (by kernel_rfl) ⟨?_, trivial⟩
    ·refine OWk.G 1 (K98 p0 p1 [(29, eI r2), (30, vI p2), (32, vI r1.1)]) <| OWk.D ?_
     exact c95
   have c86 : X 6 86 (sp 33 [(4, Z1 p0), (8, kE), (27, vI p1), (28, Z0 p3), (30, vI p2), (32, vI r1.1)] H) := by
    subst hX
    refine OX.step (i0 := 0) (is := [3]) (by kernel_rfl) (by kernel_rfl) ⟨?_, ?_, trivial⟩
    ·refine OWk.G 1 (K98 p0 p1 [(28, Z0 p3), (30, vI p2), (32, vI r1.1)]) <| OWk.D ?_
     exact c87
    ·refine OWk.C0 (some 29) [(4, Z1 p0), (8, kE), (27, vI p1), (29, eI r2), (30, vI p2), (32, vI r1.1)] (l9 hr_3) <| OWk.D ?_
     exact c94
   refine OBk.G 1 [(2, vI p2), (3, Z0 p3), (4, Z1 p0), (8, kE), (11, vI r1.1), (27, vI p1)] <| OBk.G 1 [(2, vI p2), (4, Z1 p0), (8, kE), (11, vI r1.1), (27, vI p1), (28, Z0 p3)] <| OBk.G 1 [(4, Z1 p0), (8, kE), (11, vI r1.1), (27, vI p1), (28, Z0 p3), (30, vI p2)] <| OBk.G 1 [(4, Z1 p0), (8, kE), (27, vI p1), (28, Z0 p3), (30, vI p2), (32, vI r1.1)] <| OBk.done (by kernel_rfl) ?_
   exact c86
  refine ad <| SW.ret ?_
  cases h
  exact aA.ret [] (by kernel_rfl) rfl
def cX (fuel : Nat) (H : Hp) (y2 : Int × (Option Nat)) : Option ((Int × (Option Nat)) ⊕ (Int)) :=
 y2.2.bind fun i3 =>
 (dh fuel i3 H).bind fun r4 =>
 bif (!r4) then
  (cp 1 cP H i3 1).bind fun x5 =>
  (idx x5 0).bind fun x6 =>
  some (.inl ((IntKind.wrap .i64 (y2.1 + 1)), x6))
 else
  some (.inr y2.1)
def dC (fuel : Nat) (p0 : Nat) (H : Hp) : Option (Int) :=
 (bg cP.cell H p0 4).bind fun x1 =>
 (iter (cX fuel H) fuel (1, x1)).bind fun v8 =>
 some v8
def mG (x0 : Tree × Int × Int) : SV := .box [.d (.list 1 (List.map (D.int .i64) x0.1.S.aq)), .d (.list 1 (List.map D.bool x0.1.S.Down)), vI x0.1.S.Dup, vI x0.1.Order, .d (.list 3 (List.map ab x0.1.All)), vI x0.1.jN]
def CY (x0 : (((Option Nat) × Int × Int) × Hp)) (x1 : Tree × Int × Int) : SV := vB (x0.1.2.1 == x1.2.1)
def CX (x0 : (((Option Nat) × Int × Int) × Hp)) (x1 : Tree × Int × Int) : SV := vB ((x0.1.2.1 == x1.2.1) && (x0.1.2.2 == x1.2.2))
def BP (x0 : Tree × Int × Int) : SV := .d (.agg [.list 1 (List.map (D.int .i64) x0.1.S.aq), .list 1 (List.map D.bool x0.1.S.Down), .int .i64 x0.1.S.Dup, .int .i64 x0.1.Order, .list 3 (List.map ab x0.1.All), .int .i64 x0.1.jN])
def kD (x0 : Tree) : SV := .box [.d (.list 1 (List.map (D.int .i64) x0.S.aq)), .d (.list 1 (List.map D.bool x0.S.Down)), vI x0.S.Dup, vI x0.Order, .d (.list 3 (List.map ab x0.All)), vI x0.jN]
def yz (x0 : Int × (Option Nat)) : SV := vI (IntKind.wrap .i64 (x0.1 + 1))
theorem cW {fuel : Nat} {p0 : Nat} {H : Hp} {r : Int} (h : dC fuel p0 H = some r) : SC Try.prog true 34 [.d (.ptr p0 0)] H (vI r) H := by
 refine SC.gL Try.func34 rfl ?_
 unfold dC at h
 refine SW.kp 23 H [0] [(0, .d (.ptr p0 0))] (by kernel_rfl) <| SW.R 1 [(0, .d (.ptr p0 0))] <| SW.seq <| SW.R 1 [(0, .d (.ptr p0 0)), (6, vB false)] <| SW.fh (by kernel_rfl) <| SW.skip <| ad <| SW.R 1 [(0, .d (.ptr p0 0)), (3, vI 1)] <| SW.seq <| SW.S <| OWk.G 3 [(3, vI 1), (9, .d (.ptr p0 4))] ?_
 obtain ⟨x1, hx, h⟩ := aa h
 refine OWk.O (d := some 10) (s := .d (cP.enc x1)) [(3, vI 1), (10, .d (cP.enc x1))] (BAt.ldH (c := cP.cell) hx (by kernel_rfl)) <| OWk.G 1 [(3, vI 1), (4, .d (cP.enc x1))] <| OWk.E <| SW.block ?_
 obtain ⟨v8, hit, h⟩ := aa h
 refine SW.it 23 H [3, 4] (fun y2 => [(3, vI y2.1), (4, .d (cP.enc y2.2))]) (fun v8 e s => (e = .exit 0 ∧ s = (sp 23 [(3, vI v8)] H))) hit (by kernel_rfl) (fun y2 o h => ?_) ?_
 ·unfold cX at h
  refine SW.seq <| SW.S <| OWk.G 1 [(3, vI y2.1), (4, .d (cP.enc y2.2)), (11, .d (cP.enc y2.2))] ?_
  obtain ⟨i3, hp_i3, h⟩ := aa h
  refine OWk.asP y2.2 (fun p => (sp 23 [(3, vI y2.1), (4, .d (cP.enc p)), (11, .d (cP.enc p))] H)) (by kernel_rfl) hp_i3 ?_
  obtain ⟨r4, hr, h⟩ := aa h
  refine OWk.CR (ls := []) (some 12) [(3, vI y2.1), (4, .d (.ptr i3 0)), (12, vB r4)] (fq hr) <| OWk.G 1 [(3, vI y2.1), (4, .d (.ptr i3 0)), (13, vB (!r4))] <| OWk.E ?_
  refine SW.B (!r4) (fun hc => ?_) (fun hc => ?_)
  ·replace h := an hc h
   refine SW.skip <| ad <| SW.seq <| SW.block <| SW.au <| OWk.G 3 [(3, yz y2), (4, .d (.ptr i3 0))] <| OWk.D <| aH <| ad <| SW.au <| OWk.G 3 [(3, yz y2), (16, .d (.ptr i3 1))] ?_
   obtain ⟨x5, hx, h⟩ := aa h
   refine OWk.O (d := some 17) (s := .bf (.ai i3 1) 1 (List.map cP.enc x5)) [(3, yz y2), (17, zO i3 x5)] (BAt.ldL (c := cP) hx (by kernel_rfl)) ?_
   obtain ⟨x6, hx, h⟩ := aa h
   refine OWk.O (d := some 18) (s := aO (some (.ai i3 1)) [cP.enc x6]) [(3, yz y2), (18, .bO (.ai i3 1) [cP.enc x6])] (BAt.pI (n := 1) hx (by kernel_rfl)) <| OWk.G 2 [(3, yz y2), (4, .d (cP.enc x6))] <| OWk.D ?_
   cases h
   exact ⟨((IntKind.wrap .i64 (y2.1 + 1)), x6), rfl, by kernel_rfl⟩
  ·replace h := ao hc h
   refine SW.K [(3, vI y2.1)] <| SW.exit <| aJ ?_
   cases h
   refine aJ ?_
   exact ⟨_, rfl, ⟨rfl, rfl⟩⟩
 ·rintro _ _ ⟨rfl, rfl⟩
  refine aT <| ad <| SW.R 1 [(2, vI v8)] <| SW.ret ?_
  cases h
  exact aA.ret [] (by kernel_rfl) rfl
end Go.Sh
