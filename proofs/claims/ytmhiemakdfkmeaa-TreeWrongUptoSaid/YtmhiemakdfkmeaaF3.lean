/- Printed by a program: functions of the program as plain functions, and that the code computes them. -/
import Derived.Test.YtmhiemakdfkmeaaF2
set_option linter.all false
set_option autoImplicit true
set_option relaxedAutoImplicit true
open Go Go.Proofs
namespace Go.Sh
set_option maxRecDepth 100000
def oa (x : Node) (u : Go.Value) : D := .agg [.int .i64 x.Level, .list 3 (List.map ab x.Entries), .raw u]
def eC (l : List Node) (us : List Go.Value) : KS := List.zipWith (fun x u => (u, some x.Kids)) l us
def aQ (l : List Node) (us : List Go.Value) : List D := List.zipWith oa l us
theorem jO {α β γ : Type} {f : α → β → γ} : ∀ (l : List α) (us : List β) (i : Nat) (x : α) (u : β), List.zipWith f (l.set i x) (us.set i u) = (List.zipWith f l us).set i (f x u)
 | [], us, i, x, u => by simp
 | a :: l, [], i, x, u => by simp
 | a :: l, b :: us, 0, x, u => by simp
 | a :: l, b :: us, i + 1, x, u => by simp [jO l us i x u]
theorem xK {l : List Node} {us : List Go.Value} (h : us.length = l.length) : (eC l us).length = l.length := by simp [eC, h]
theorem jP {l : List Node} {us : List Go.Value} (h : us.length = l.length) : (aQ l us).length = l.length := by simp [aQ, h]
def NZ0 (x0 : Int) : SV := .box [vI x0, .d (.bW), .d (.bW)]
def NZ1 (x0 : Nat) (x1 : (List Entry)) : SV := .bf (.ai x0 0) 3 (List.map ab x1)
def NZ3 (x0 : Entry) : SV := .box [.d (.list 3 (List.map ag x0.Row)), vI x0.Key, vI x0.Number]
def NZ4 (x0 : Entry) : SV := .d (.agg [.list 3 (List.map ag x0.Row), .int .i64 x0.Key, .int .i64 x0.Number])
def tR (x0 : Entry) : SV := .own 3 (List.map ab [x0])
def Ep (x0 : Int) : SV := .box [vI x0, .own 3 (List.map ab ([] : List Entry)), .d (.bW)]
def A9 (x0 : Int × (List Entry) × Int) : SV := .box [vI x0.1, .own 3 (List.map ab x0.2.1), .d (.bW)]
def Eo (x0 : Int × (List Entry) × Int) (x1 : (List Entry)) : SV := vB (decide (x0.2.2 < (x1.length : Int)))
def A8 (x0 : Int × (List Entry) × Int) : SV := .box [vI x0.1, .undef, .d (.bW)]
def qe (x0 : Int × (List Entry) × Int) : SV := .own 3 (List.map ab x0.2.1)
def zR (x0 : Int × (List Entry) × Int) (x1 : Entry) : SV := .box [vI x0.1, .own 3 (List.map ab (x0.2.1 ++ [x1])), .d (.bW)]
def zQ (x0 : Int × (List Entry) × Int) (x1 : Entry) : SV := .own 3 (List.map ab (x0.2.1 ++ [x1]))
def En (x0 : Int × (List Entry) × Int) : SV := vI (IntKind.wrap .i64 (x0.2.2 + 1))
def cQ (fuel : Nat) (x1 : (List Entry)) (y2 : Int × (List Entry) × Int) : Option ((Int × (List Entry) × Int) ⊕ (Int × (List Entry))) :=
 bif (decide (y2.2.2 < (x1.length : Int))) then
  (idx x1 y2.2.2).bind fun x3 =>
  (oX fuel x3).bind fun r4 =>
  chk (decide ((y2.2.1 ++ [r4]).length ≤ room)) <|
  some (.inl (y2.1, (y2.2.1 ++ [r4]), (IntKind.wrap .i64 (y2.2.2 + 1))))
 else
  some (.inr (y2.1, y2.2.1))
def nr (l : List Node) (j : Nat) (i : Int) : Option (List Node) := match l[j]? with
 | some x => chk (decide ((x.Kids ++ [i]).length ≤ room)) (some (l.set j { x with Kids := x.Kids ++ [i] }))
 | none => none
theorem vb {l l' : List Node} {j : Nat} {i : Int} (h : nr l j i = some l') : ∃ x, l[j]? = some x ∧ decide ((x.Kids ++ [i]).length ≤ room) = true ∧ l' = l.set j { x with Kids := x.Kids ++ [i] } := by
 unfold nr at h
 split at h
 ·rename_i x hx
  obtain ⟨hk, h⟩ := bH h
  cases h
  exact ⟨x, hx, hk, rfl⟩
 ·cases h
def fV (rc : Nat → Int → List Node → Option (Int × List Node)) (lv : Int) (at_ : Nat) (ks : List (Option Nat)) (y : Int × List Node) : Option ((Int × List Node) ⊕ List Node) :=
 cond (decide (y.1 < (ks.length : Int))) ((idx ks y.1).bind fun k => k.bind fun k => (rc k (IntKind.wrap .i64 (lv - 1)) y.2).bind fun r => (nr r.2 at_ r.1).bind fun l' => some (.inl (IntKind.wrap .i64 (y.1 + 1), l'))) (some (.inr y.2))
def gx (fuel : Nat) (H : Hp) : Nat → Nat → Int → List Node → Option (Int × List Node)
 | 0, _, _, _ => none
 | s + 1, p0, p1, l =>
  (cp 3 aK H p0 0).bind fun x1 =>
  (iter (cQ fuel x1) fuel (p1, ([] : List Entry), 0)).bind fun v7 =>
  chk (decide (l.length + 1 ≤ room)) <|
  (cp 1 cP H p0 1).bind fun ks =>
  (iter (fV (gx fuel H s) p1 l.length ks) fuel (0, l ++ [⟨v7.1, v7.2, []⟩])).bind fun l' => some ((l.length : Int), l')
def oo (oi di : Nat) : D := .fn (.func 56) [] [.ptr oi 0, .ptr di 0]
def K2 := fun a0 a1 a2 a3 a4 a5 a6 a7 (t : SL) => ((1, vI a0) :: (2, .d (.ptr a1 0)) :: (3, .d (.ptr a2 0)) :: (7, vI (a3 : Int)) :: (43, .bf (.ai a4 1) 1 (List.map cP.enc a5)) :: (44, vI (a6 : Int)) :: (45, vI a7) :: t : SL)
def K6 := fun a0 a1 a2 a3 a4 (t : SL) => ((0, .d (.ptr a0 0)) :: (1, vI a1) :: (2, .d (.ptr a2 0)) :: (3, .d (.ptr a3 0)) :: (7, vI (a4 : Int)) :: t : SL)
def K23 := fun a0 a1 a2 a3 a4 a5 a6 a7 a8 a9 (t : SL) => ((1, vI a0) :: (2, .d (.ptr a1 0)) :: (3, .d (.ptr a2 0)) :: (7, vI (a3 : Int)) :: (43, .bf (.ai a4 1) 1 (List.map cP.enc a5)) :: (44, vI (a6 : Int)) :: (45, vI a7) :: (54, .d (.raw a8)) :: (55, vI (a9 : Int)) :: t : SL)
def K25 := fun a0 a1 a2 a3 a4 a5 a6 a7 a8 a9 (t : SL) => ((0, .d (.ptr a0 0)) :: (1, vI a1) :: (2, .d (.ptr a2 0)) :: (3, .d (.ptr a3 0)) :: (7, vI (a4 : Int)) :: (8, A9 a5) :: (22, NZ1 a6 a7) :: (23, vI (a8 : Int)) :: (24, vI a9) :: t : SL)
def K34 := fun a0 a1 a2 a3 (t : SL) => ((1, vI a0) :: (2, .d (.ptr a1 0)) :: (3, .d (.ptr a2 0)) :: (7, vI (a3 : Int)) :: t : SL)
def K37 := fun a0 a1 a2 a3 a4 a5 a6 a7 a8 a9 (t : SL) => ((0, .d (.ptr a0 0)) :: (1, vI a1) :: (2, .d (.ptr a2 0)) :: (3, .d (.ptr a3 0)) :: (7, vI (a4 : Int)) :: (8, A8 a5) :: (22, NZ1 a6 a7) :: (23, vI (a8 : Int)) :: (24, vI a9) :: t : SL)
def K81 := fun a0 a1 a2 a3 a4 a5 a6 a7 a8 (t : SL) => ((1, vI a0) :: (2, .d (.ptr a1 0)) :: (3, .d (.ptr a2 0)) :: (7, vI (a3 : Int)) :: (43, .bf (.ai a4 1) 1 (List.map cP.enc a5)) :: (44, vI (a6 : Int)) :: (45, vI a7) :: (55, vI (a8 : Int)) :: t : SL)
def K105 := fun a0 a1 a2 a3 a4 a5 a6 a7 a8 a9 a10 (t : SL) => ((0, .d (.ptr a0 0)) :: (1, vI a1) :: (2, .d (.ptr a2 0)) :: (3, .d (.ptr a3 0)) :: (7, vI (a4 : Int)) :: (8, A9 a5) :: (10, NZ3 a6) :: (22, NZ1 a7 a8) :: (23, vI (a9 : Int)) :: (24, vI a10) :: t : SL)
theorem sB {fuel oi di : Nat} {H : Hp} (hoi : H[oi]? = some .hole) : ∀ (s p0 : Nat) (p1 : Int) (l : List Node) (us : List Go.Value) (v : Go.Value) (q : Int × List Node), us.length = l.length → gx fuel H s p0 p1 l = some q →
  SNK Try.prog oi di (oo oi di) 56 [.d (.ptr p0 0), vI p1, .d (.ptr oi 0), .d (.ptr di 0)] (H.set oi (.cells [.own 3 (aQ l us)])) (v, eC l us)
   (fun s' H' r => ∃ us', us'.length = q.2.length ∧ s'.2 = eC q.2 us' ∧ H' = H.set oi (.cells [.own 3 (aQ q.2 us')]) ∧ r = q.1) := by
 intro s
 induction s with
 | zero => intro p0 p1 l us v q _ h; cases h
 | succ s ih =>
  intro p0 p1 l us v q hlen h
  unfold gx at h
  obtain ⟨x1, hx0, h1⟩ := aa h
  obtain ⟨v7, hit0, h2⟩ := aa h1
  obtain ⟨hroom0, h3⟩ := bH h2
  obtain ⟨ks, hks, h4⟩ := aa h3
  obtain ⟨lq, hit, h5⟩ := aa h4
  cases h5
  clear h h1 h2 h3 h4
  obtain ⟨hx0', -⟩ := q8 (X := .cells [.own 3 (aQ l us)]) hx0 hoi
  have hHs : (H.set oi (.cells [.own 3 (aQ l us)]))[oi]? = some (.cells [.own 3 (aQ l us)]) := List.getElem?_set_self (aD hoi)
  have hroom : (aQ l us ++ [D.agg [.int .i64 v7.1, .list 3 (List.map ab v7.2), .bW]]).length ≤ room := by
   have := of_decide_eq_true hroom0
   simp [jP hlen]; omega
  simp only at ih ⊢
  refine SNK.Ar Try.func56 rfl rfl <| SWG.kp 68 (H.set oi (.cells [.own 3 (aQ l us)])) [0, 1, 2, 3] (K3 p0 p1 [(2, .d (.ptr oi 0)), (3, .d (.ptr di 0))]) (by kernel_rfl) <| SWG.seq gcK <| SWG.of gcK <| SW.au <| OWk.G 1 (K3 p0 p1 [(2, .d (.ptr oi 0)), (3, .d (.ptr di 0))]) <| OWk.D <| dj <| SWG.seq gcK <| SWG.of gcK <| SW.au <|
   OWk.O (d := some 14) (s := .bf (.ai oi 0) 3 (aQ l us)) (K3 p0 p1 [(2, .d (.ptr oi 0)), (3, .d (.ptr di 0)), (14, .bf (.ai oi 0) 3 (aQ l us))]) (BAt.ldO hHs rfl (by kernel_rfl)) <| OWk.G 2 (K3 p0 p1 [(2, .d (.ptr oi 0)), (3, .d (.ptr di 0)), (7, vI ((aQ l us).length : Int))]) <| OWk.D ?_
  rw [jP hlen]
  refine dj <| SWG.seq gcK <| SWG.of gcK <| SW.au <| OWk.G 4 (K6 p0 p1 oi di l.length [(8, NZ0 p1)]) <| OWk.D <| dj <| SWG.seq gcK <| SWG.of gcK <| SW.S <| OWk.G 4 (K6 p0 p1 oi di l.length [(8, NZ0 p1), (21, .d (.ptr p0 0))]) ?_
  refine OWk.O (d := some 22) (s := .bf (.ai p0 0) 3 (List.map ab x1)) (K6 p0 p1 oi di l.length [(8, NZ0 p1), (22, NZ1 p0 x1)]) (BAt.ldL (c := aK) hx0' (by kernel_rfl)) <| OWk.O (d := some 23) (K6 p0 p1 oi di l.length [(8, NZ0 p1), (22, NZ1 p0 x1), (23, vI (x1.length : Int))]) (BAt.len (enc := ab) (xs := x1) (by kernel_rfl)) <| OWk.G 1 (K6 p0 p1 oi di l.length [(8, NZ0 p1), (22, NZ1 p0 x1), (23, vI (x1.length : Int)), (24, vI 0)]) <| OWk.E <| SW.block ?_
  refine SW.uE 8 1 3 68 (H.set oi (.cells [.own 3 (aQ l us)])) [0, 1, 2, 3, 7, 8, 22, 23, 24] (K6 p0 p1 oi di l.length [(8, Ep p1), (22, NZ1 p0 x1), (23, vI (x1.length : Int)), (24, vI 0)]) (by kernel_rfl) ?_
  refine SW.it 68 (H.set oi (.cells [.own 3 (aQ l us)])) [0, 1, 2, 3, 7, 8, 22, 23, 24] (fun y2 => (K6 p0 p1 oi di l.length [(8, .box [vI y2.1, .own 3 (List.map ab y2.2.1), .d (.bW)]), (22, NZ1 p0 x1), (23, vI (x1.length : Int)), (24, vI y2.2.2)])) (fun v7 e s => (e = .exit 0 ∧ s = (sp 68 (K6 p0 p1 oi di l.length [(8, .box [vI v7.1, .own 3 (List.map ab v7.2), .d (.bW)])]) (H.set oi (.cells [.own 3 (aQ l us)]))))) hit0 (by kernel_rfl) (fun y2 o h => ?_) ?_
  ·unfold cQ at h
   refine SW.R 1 (K25 p0 p1 oi di l.length y2 p0 x1 x1.length y2.2.2 [(25, Eo y2 x1)]) <| SW.seq ?_
   refine SW.B (decide (y2.2.2 < (x1.length : Int))) (fun hc => ?_) (fun hc => ?_)
   ·replace h := an hc h
    refine SW.skip <| ad <| SW.seq <| SW.block <| SW.S ?_
    obtain ⟨x3, hx, h⟩ := aa h
    refine OWk.O (d := some 26) (s := aO (some (.ai p0 0)) (Go.Sh.D.cells (ab x3))) (K25 p0 p1 oi di l.length y2 p0 x1 x1.length y2.2.2 [(26, .bO (.ai p0 0) [.list 3 (List.map ag x3.Row), .int .i64 x3.Key, .int .i64 x3.Number])]) (BAt.index (n := 3) hx (by kernel_rfl)) <| OWk.G 3 (K105 p0 p1 oi di l.length y2 x3 p0 x1 x1.length y2.2.2 []) <| OWk.E ?_
    obtain ⟨r4, hr_3, h⟩ := aa h
    obtain ⟨hk5, h⟩ := bH h
    refine SW.kp 68 (H.set oi (.cells [.own 3 (aQ l us)])) [0, 1, 2, 3, 7, 8, 10, 22, 23, 24] (K105 p0 p1 oi di l.length y2 x3 p0 x1 x1.length y2.2.2 []) (by kernel_rfl) ?_
    refine SW.y8 68 (H.set oi (.cells [.own 3 (aQ l us)])) (K6 p0 p1 oi di l.length [(8, zR y2 r4), (22, NZ1 p0 x1), (23, vI (x1.length : Int)), (24, vI y2.2.2)]) (by kernel_rfl) (fun X hX => ?_) ?_
    ·have c255 : X 0 255 (sp 68 (K6 p0 p1 oi di l.length [(8, zR y2 r4), (22, NZ1 p0 x1), (23, vI (x1.length : Int)), (24, vI y2.2.2)]) (H.set oi (.cells [.own 3 (aQ l us)]))) := by subst hX; exact OX.fin (by kernel_rfl)
     have c127 : X 1 127 (sp 68 (K37 p0 p1 oi di l.length y2 p0 x1 x1.length y2.2.2 [(33, zQ y2 r4), (34, .loc 8 1)]) (H.set oi (.cells [.own 3 (aQ l us)]))) := by
      subst hX
      refine OX.step (i0 := 7) (is := []) (by kernel_rfl) (by kernel_rfl) ⟨?_, trivial⟩
      ·refine OWk.gvC 68 (H.set oi (.cells [.own 3 (aQ l us)])) [0, 1, 2, 3, 7, 8, 22, 23, 24] (K6 p0 p1 oi di l.length [(8, zR y2 r4), (22, NZ1 p0 x1), (23, vI (x1.length : Int)), (24, vI y2.2.2)]) (by kernel_rfl) <| OWk.D ?_
       exact c255
     have c63 : X 2 63 (sp 68 (K37 p0 p1 oi di l.length y2 p0 x1 x1.length y2.2.2 [(33, zQ y2 r4)]) (H.set oi (.cells [.own 3 (aQ l us)]))) := by
      subst hX
      refine OX.step (i0 := 6) (is := []) (by kernel_rfl) (by kernel_rfl) ⟨?_, trivial⟩
      ·refine OWk.sg 68 (H.set oi (.cells [.own 3 (aQ l us)])) [29] [0, 1, 2, 3, 7, 8, 22, 23, 24, 33, 34] 1 (K37 p0 p1 oi di l.length y2 p0 x1 x1.length y2.2.2 [(33, zQ y2 r4), (34, .loc 8 1)]) (by kernel_rfl) <| OWk.D ?_
       exact c127
     have c31 : X 3 31 (sp 68 (K37 p0 p1 oi di l.length y2 p0 x1 x1.length y2.2.2 [(29, qe y2), (32, tR r4)]) (H.set oi (.cells [.own 3 (aQ l us)]))) := by
      subst hX
      refine OX.step (i0 := 5) (is := []) (by kernel_rfl) (by kernel_rfl) ⟨?_, trivial⟩
      ·refine OWk.app 68 (H.set oi (.cells [.own 3 (aQ l us)])) (s := 29) (d := 33) (w := 3) [0, 1, 2, 3, 7, 8, 22, 23, 24, 33] (zs := List.map ab (y2.2.1 ++ [r4])) (K37 p0 p1 oi di l.length y2 p0 x1 x1.length y2.2.2 [(33, zQ y2 r4)]) (ys := (List.map ab [r4])) (by kernel_rfl) (aY) (bY hk5) (by kernel_rfl) <| OWk.D ?_
       exact c63
     have c15 : X 4 15 (sp 68 (K37 p0 p1 oi di l.length y2 p0 x1 x1.length y2.2.2 [(29, qe y2), (31, NZ4 r4)]) (H.set oi (.cells [.own 3 (aQ l us)]))) := by
      subst hX
      refine OX.step (i0 := 4) (is := []) (by kernel_rfl) (by kernel_rfl) ⟨?_, trivial⟩
      ·refine OWk.sg 68 (H.set oi (.cells [.own 3 (aQ l us)])) [29] [0, 1, 2, 3, 7, 8, 22, 23, 24, 29, 32] 1 (K37 p0 p1 oi di l.length y2 p0 x1 x1.length y2.2.2 [(29, qe y2), (32, tR r4)]) (by kernel_rfl) <| OWk.D ?_
       exact c31
     have c7 : X 5 7 (sp 68 (K37 p0 p1 oi di l.length y2 p0 x1 x1.length y2.2.2 [(29, qe y2), (30, NZ4 x3)]) (H.set oi (.cells [.own 3 (aQ l us)]))) := by
      subst hX
      refine OX.step (i0 := 3) (is := []) (by kernel_rfl) (by kernel_rfl) ⟨?_, trivial⟩
      ·refine OWk.C0 (some 31) (K37 p0 p1 oi di l.length y2 p0 x1 x1.length y2.2.2 [(29, qe y2), (31, .d (.agg [.list 3 (List.map ag r4.Row), .int .i64 r4.Key, .int .i64 r4.Number]))]) (eA hr_3) <| OWk.D ?_
       exact c15
     have c3 : X 6 3 (sp 68 (K6 p0 p1 oi di l.length [(8, A8 y2), (10, NZ3 x3), (22, NZ1 p0 x1), (23, vI (x1.length : Int)), (24, vI y2.2.2), (29, qe y2)]) (H.set oi (.cells [.own 3 (aQ l us)]))) := by
      subst hX
      refine OX.step (i0 := 2) (is := []) (by kernel_rfl) (by kernel_rfl) ⟨?_, trivial⟩
      ·refine OWk.sg 68 (H.set oi (.cells [.own 3 (aQ l us)])) [29] [0, 1, 2, 3, 7, 8, 22, 23, 24, 29, 30] 1 (K37 p0 p1 oi di l.length y2 p0 x1 x1.length y2.2.2 [(29, qe y2), (30, NZ4 x3)]) (by kernel_rfl) <| OWk.D ?_
       exact c7
     have c29 : X 4 29 (sp 68 (K25 p0 p1 oi di l.length y2 p0 x1 x1.length y2.2.2 [(28, .loc 8 1), (32, tR r4)]) (H.set oi (.cells [.own 3 (aQ l us)]))) := by
      subst hX
      refine OX.step (i0 := 1) (is := []) (by kernel_rfl) (by kernel_rfl) ⟨?_, trivial⟩
      ·refine OWk.tkC 68 (H.set oi (.cells [.own 3 (aQ l us)])) [0, 1, 2, 3, 7, 8, 22, 23, 24, 29, 32] (K37 p0 p1 oi di l.length y2 p0 x1 x1.length y2.2.2 [(29, qe y2), (32, tR r4)]) (by kernel_rfl) <| OWk.D ?_
       exact c31
     have c13 : X 5 13 (sp 68 (K25 p0 p1 oi di l.length y2 p0 x1 x1.length y2.2.2 [(28, .loc 8 1), (31, NZ4 r4)]) (H.set oi (.cells [.own 3 (aQ l us)]))) := by
      subst hX
      refine OX.step (i0 := 1) (is := [4]) (by kernel_rfl) (by kernel_rfl) ⟨?_, ?_, trivial⟩
      ·refine OWk.tkC 68 (H.set oi (.cells [.own 3 (aQ l us)])) [0, 1, 2, 3, 7, 8, 22, 23, 24, 29, 31] (K37 p0 p1 oi di l.length y2 p0 x1 x1.length y2.2.2 [(29, qe y2), (31, NZ4 r4)]) (by kernel_rfl) <| OWk.D ?_
       exact c15
      ·refine OWk.sg 68 (H.set oi (.cells [.own 3 (aQ l us)])) [29] [0, 1, 2, 3, 7, 8, 22, 23, 24, 28, 32] 1 (K25 p0 p1 oi di l.length y2 p0 x1 x1.length y2.2.2 [(28, .loc 8 1), (32, tR r4)]) (by kernel_rfl) <| OWk.D ?_
       exact c29
     have c5 : X 6 5 (sp 68 (K25 p0 p1 oi di l.length y2 p0 x1 x1.length y2.2.2 [(28, .loc 8 1), (30, NZ4 x3)]) (H.set oi (.cells [.own 3 (aQ l us)]))) := by
      subst hX
      refine OX.step (i0 := 1) (is := [3]) (by kernel_rfl) (by kernel_rfl) ⟨?_, ?_, trivial⟩
      ·refine OWk.tkC 68 (H.set oi (.cells [.own 3 (aQ l us)])) [0, 1, 2, 3, 7, 8, 22, 23, 24, 29, 30] (K37 p0 p1 oi di l.length y2 p0 x1 x1.length y2.2.2 [(29, qe y2), (30, NZ4 x3)]) (by kernel_rfl) <| OWk.D ?_
       exact c7
      ·refine OWk.C0 (some 31) (K25 p0 p1 oi di l.length y2 p0 x1 x1.length y2.2.2 [(28, .loc 8 1), (31, NZ4 r4)]) (eA hr_3) <| OWk.D ?_
       exact c13
     have c1 : X 7 1 (sp 68 (K105 p0 p1 oi di l.length y2 x3 p0 x1 x1.length y2.2.2 [(28, .loc 8 1)]) (H.set oi (.cells [.own 3 (aQ l us)]))) := by
      subst hX
      refine OX.step (i0 := 1) (is := [2]) (by kernel_rfl) (by kernel_rfl) ⟨?_, ?_, trivial⟩
      ·refine OWk.tkC 68 (H.set oi (.cells [.own 3 (aQ l us)])) [0, 1, 2, 3, 7, 8, 10, 22, 23, 24, 29] (K6 p0 p1 oi di l.length [(8, A8 y2), (10, NZ3 x3), (22, NZ1 p0 x1), (23, vI (x1.length : Int)), (24, vI y2.2.2), (29, qe y2)]) (by kernel_rfl) <| OWk.D ?_
       exact c3
      ·refine OWk.sg 68 (H.set oi (.cells [.own 3 (aQ l us)])) [29] [0, 1, 2, 3, 7, 8, 22, 23, 24, 28, 30] 1 (K25 p0 p1 oi di l.length y2 p0 x1 x1.length y2.2.2 [(28, .loc 8 1), (30, NZ4 x3)]) (by kernel_rfl) <| OWk.D ?_
       exact c5
     have c28 : X 5 28 (sp 68 (K25 p0 p1 oi di l.length y2 p0 x1 x1.length y2.2.2 [(32, tR r4)]) (H.set oi (.cells [.own 3 (aQ l us)]))) := by
      subst hX
      refine OX.step (i0 := 0) (is := []) (by kernel_rfl) (by kernel_rfl) ⟨?_, trivial⟩
      ·refine OWk.sg 68 (H.set oi (.cells [.own 3 (aQ l us)])) [29] [0, 1, 2, 3, 7, 8, 22, 23, 24, 28, 32] 1 (K25 p0 p1 oi di l.length y2 p0 x1 x1.length y2.2.2 [(28, .loc 8 1), (32, tR r4)]) (by kernel_rfl) <| OWk.D ?_
       exact c29
     have c12 : X 6 12 (sp 68 (K25 p0 p1 oi di l.length y2 p0 x1 x1.length y2.2.2 [(31, NZ4 r4)]) (H.set oi (.cells [.own 3 (aQ l us)]))) := by
      subst hX
      refine OX.step (i0 := 0) (is := [4]) (by kernel_rfl) (by kernel_rfl) ⟨?_, ?_, trivial⟩
      ·refine OWk.sg 68 (H.set oi (.cells [.own 3 (aQ l us)])) [29] [0, 1, 2, 3, 7, 8, 22, 23, 24, 28, 31] 1 (K25 p0 p1 oi di l.length y2 p0 x1 x1.length y2.2.2 [(28, .loc 8 1), (31, NZ4 r4)]) (by kernel_rfl) <| OWk.D ?_
       exact c13
      ·refine OWk.sg 68 (H.set oi (.cells [.own 3 (aQ l us)])) [29] [0, 1, 2, 3, 7, 8, 22, 23, 24, 32] 1 (K25 p0 p1 oi di l.length y2 p0 x1 x1.length y2.2.2 [(32, tR r4)]) (by kernel_rfl) <| OWk.D ?_
       exact c28
     have c4 : X 7 4 (sp 68 (K25 p0 p1 oi di l.length y2 p0 x1 x1.length y2.2.2 [(30, NZ4 x3)]) (H.set oi (.cells [.own 3 (aQ l us)]))) := by
      subst hX
      refine OX.step (i0 := 0) (is := [3]) (by kernel_rfl) (by kernel_rfl) ⟨?_, ?_, trivial⟩
      ·refine OWk.sg 68 (H.set oi (.cells [.own 3 (aQ l us)])) [29] [0, 1, 2, 3, 7, 8, 22, 23, 24, 28, 30] 1 (K25 p0 p1 oi di l.length y2 p0 x1 x1.length y2.2.2 [(28, .loc 8 1), (30, NZ4 x3)]) (by kernel_rfl) <| OWk.D ?_
       exact c5
      ·refine OWk.C0 (some 31) (K25 p0 p1 oi di l.length y2 p0 x1 x1.length y2.2.2 [(31, NZ4 r4)]) (eA hr_3) <| OWk.D ?_
       exact c12
     have c0 : X 8 0 (sp 68 (K105 p0 p1 oi di l.length y2 x3 p0 x1 x1.length y2.2.2 []) (H.set oi (.cells [.own 3 (aQ l us)]))) := by
      subst hX
      refine OX.step (i0 := 0) (is := [2]) (by kernel_rfl) (by kernel_rfl) ⟨?_, ?_, trivial⟩
      ·refine OWk.sg 68 (H.set oi (.cells [.own 3 (aQ l us)])) [29] [0, 1, 2, 3, 7, 8, 10, 22, 23, 24, 28] 1 (K105 p0 p1 oi di l.length y2 x3 p0 x1 x1.length y2.2.2 [(28, .loc 8 1)]) (by kernel_rfl) <| OWk.D ?_
       exact c1
      ·refine OWk.sg 68 (H.set oi (.cells [.own 3 (aQ l us)])) [29] [0, 1, 2, 3, 7, 8, 22, 23, 24, 30] 1 (K25 p0 p1 oi di l.length y2 p0 x1 x1.length y2.2.2 [(30, NZ4 x3)]) (by kernel_rfl) <| OWk.D ?_
       exact c4
     exact c0
    refine aH <| ad <| SW.au <| OWk.G 2 (K6 p0 p1 oi di l.length [(8, zR y2 r4), (22, NZ1 p0 x1), (23, vI (x1.length : Int)), (24, En y2)]) <| OWk.D ?_
    cases h
    exact ⟨(y2.1, (y2.2.1 ++ [r4]), (IntKind.wrap .i64 (y2.2.2 + 1))), rfl, by kernel_rfl⟩
   ·replace h := ao hc h
    refine SW.K (K6 p0 p1 oi di l.length [(8, A9 y2)]) <| SW.exit <| aJ ?_
    cases h
    refine aJ ?_
    exact ⟨_, rfl, ⟨rfl, rfl⟩⟩
  ·rintro _ _ ⟨rfl, rfl⟩
   refine aT <| dj ?_
 
   refine SWG.seq gcK <| SWG.fzC gcK 8 1 68 (H.set oi (.cells [.own 3 (aQ l us)])) [0, 1, 2, 3, 7, 8] (K6 p0 p1 oi di l.length [(8, .box [vI v7.1, .d (.list 3 (List.map ab v7.2)), .d (.bW)])]) (by kernel_rfl) <| SWG.fD <| OGt.step gcK (by kernel_rfl) <| aZ.Bi (t := 36) (H0 := H.set oi (.cells [.own 3 (aQ l us)])) (n := 3) (xs := aQ l us) (by kernel_rfl) hHs <|
    OGt.kp 68 ((H.set oi (.cells [.own 3 (aQ l us)])).set oi (.cells [.undef])) [0, 1, 2, 3, 7, 8, 36] (K6 p0 p1 oi di l.length [(8, .box [vI v7.1, .d (.list 3 (List.map ab v7.2)), .d (.bW)]), (36, .own 3 (aQ l us))]) (by kernel_rfl) <| OGt.F gcK (OWk.G 1 (K6 p0 p1 oi di l.length [(36, .own 3 (aQ l us)), (37, .d (.agg [.int .i64 v7.1, .list 3 (List.map ab v7.2), .bW]))]) <| OWk.D <| OGt.F gcK (OWk.G 1 (K6 p0 p1 oi di l.length [(36, .own 3 (aQ l us)), (38, .own 3 [.agg [.int .i64 v7.1, .list 3 (List.map ab v7.2), .bW]])]) <| OWk.D <| OGt.F gcK
    (OWk.app 68 ((H.set oi (.cells [.own 3 (aQ l us)])).set oi (.cells [.undef])) (s := 36) (d := 39) (w := 3) [0, 1, 2, 3, 7, 39] (zs := aQ l us ++ [.agg [.int .i64 v7.1, .list 3 (List.map ab v7.2), .bW]]) (K6 p0 p1 oi di l.length [(39, .own 3 (aQ l us ++ [.agg [.int .i64 v7.1, .list 3 (List.map ab v7.2), .bW]]))]) (ys := [.agg [.int .i64 v7.1, .list 3 (List.map ab v7.2), .bW]]) (by kernel_rfl) rfl hroom (by kernel_rfl) <| OWk.D <|
    OGt.step gcK (by kernel_rfl) <| aZ.BG (t := 39) (H0 := (H.set oi (.cells [.own 3 (aQ l us)])).set oi (.cells [.undef])) (n := 3) (q := 2) (xs := aQ l us) (cs := [.int .i64 v7.1, .list 3 (List.map ab v7.2), .bW]) (by kernel_rfl) (List.getElem?_set_self (aD hHs)) rfl (by rw [xK hlen, jP hlen]) fun v1 u1 => ?_)))
   -- the element stands behind the list
   have hH2 : ∀ X Y Z, ((H.set oi X).set oi Y).set oi Z = H.set oi Z := fun X Y Z => by simp
   have e1 : eC l us ++ [(u1, some [])] = eC (l ++ [⟨v7.1, v7.2, []⟩]) (us ++ [u1]) := by simp [eC, List.zipWith_append hlen.symm]
   have e2 : aQ l us ++ [.agg ([.int .i64 v7.1, .list 3 (List.map ab v7.2), .bW].set 2 (.raw u1))] = aQ (l ++ [⟨v7.1, v7.2, []⟩]) (us ++ [u1]) := by
    simp [aQ, List.zipWith_append hlen.symm, oa]
   have hlen1 : (us ++ [u1]).length = (l ++ [(⟨v7.1, v7.2, []⟩ : Node)]).length := by simp [hlen]
   simp only [e1, e2]
   generalize us ++ [u1] = us1 at hlen1 ⊢
   generalize l ++ [(⟨v7.1, v7.2, []⟩ : Node)] = l1 at hlen1 hit ⊢
   clear e1 e2
   refine OGt.kp 68 (((H.set oi (.cells [.own 3 (aQ l us)])).set oi (.cells [.undef])).set oi (.cells [.own 3 (aQ l1 us1)])) [0, 1, 2, 3, 7] (K6 p0 p1 oi di l.length []) (by kernel_rfl) ?_
   rw [hH2]
   refine OGt.fin gcK (by kernel_rfl) <| dj ?_
   obtain ⟨hks', hpo⟩ := q8 (X := .cells [.own 3 (aQ l1 us1)]) hks hoi
   refine SWG.seq gcK <| SWG.seq gcK <| SWG.of gcK <| SW.au <| OWk.G 3 (K34 p1 oi di l.length [(42, .d (.ptr p0 1))]) <|
    OWk.O (d := some 43) (s := .bf (.ai p0 1) 1 (List.map cP.enc ks)) (K34 p1 oi di l.length [(43, .bf (.ai p0 1) 1 (List.map cP.enc ks))]) (BAt.ldL (c := cP) hks' (by kernel_rfl)) <| OWk.O (d := some 44) (K34 p1 oi di l.length [(43, .bf (.ai p0 1) 1 (List.map cP.enc ks)), (44, vI (ks.length : Int))]) (BAt.len (enc := cP.enc) (xs := ks) (by kernel_rfl)) <| OWk.G 1 (K34 p1 oi di l.length [(43, .bf (.ai p0 1) 1 (List.map cP.enc ks)), (44, vI (ks.length : Int)), (45, vI 0)]) <| OWk.D <| dj <| SWG.block <|
    SWG.itI gcK (fun (y : Int × List Node) s st => ∃ us', us'.length = y.2.length ∧ s.2 = eC y.2 us' ∧ st = sp 68 (K2 p1 oi di l.length p0 ks ks.length y.1 []) (H.set oi (.cells [.own 3 (aQ y.2 us')])))
     (fun l' s e st => e = .exit 2 ∧ ∃ us', us'.length = l'.length ∧ s.2 = eC l' us' ∧ st = sp 68 [(7, vI (l.length : Int))] (H.set oi (.cells [.own 3 (aQ l' us')]))) hit ⟨us1, hlen1, rfl, rfl⟩ (fun x o s st hI ho => ?_) (fun s' e st' hE => ?_)
   ·obtain ⟨y, l2⟩ := x
    obtain ⟨us2, hlen2, hs2, rfl⟩ := hI
    obtain ⟨v2, k2⟩ := s
    cases hs2
    unfold fV at ho
    simp only at ho hlen2 ⊢
    refine SWG.seq gcK <| SWG.of gcK <| SW.au <| OWk.G 1 (K2 p1 oi di l.length p0 ks ks.length y [(46, vB (decide (y < (ks.length : Int))))]) <| OWk.D <| dj <| SWG.seq gcK <| SWG.cond (v := decide (y < (ks.length : Int))) (by kernel_rfl) ?_
    cases hd : decide (y < (ks.length : Int)) with
    | false =>
     rw [hd] at ho
     simp only [cond_false, Option.some.injEq] at ho
     refine SWG.kp 68 (H.set oi (.cells [.own 3 (aQ l2 us2)])) [7] [(7, vI (l.length : Int))] (by kernel_rfl) <| SWG.of gcK fun a w g hr => wp_exit ⟨_, g, ?_, hr, Fr.refl _ _ _⟩
     exact ⟨l2, ho.symm, rfl, us2, hlen2, rfl, rfl⟩
    | true =>
     rw [hd] at ho
     simp only [cond_true] at ho
     obtain ⟨k0, hk0, ho1⟩ := aa ho
     obtain ⟨k, rfl, ho2⟩ := aa ho1
     obtain ⟨r, hrec, ho3⟩ := aa ho2
     obtain ⟨l3, hadd, ho4⟩ := aa ho3
     simp only [Option.some.injEq] at ho4
     refine SWG.kp 68 (H.set oi (.cells [.own 3 (aQ l2 us2)])) [1, 2, 3, 7, 43, 44, 45] (K2 p1 oi di l.length p0 ks ks.length y []) (by kernel_rfl) <| SWG.of gcK fun a w g hr => wp_skip ⟨_, g, ?_, hr, Fr.refl _ _ _⟩
     refine dj <| SWG.seq gcK <| SWG.block <| SWG.seq gcK <| SWG.of gcK <| SW.au <| OWk.O (d := some 47) (s := .bO (.ai p0 1) [cP.enc (some k)]) (K2 p1 oi di l.length p0 ks ks.length y [(47, .bO (.ai p0 1) [cP.enc (some k)])]) (BAt.pI (l := some (.ai p0 1)) (n := 1) hk0 (by kernel_rfl)) <|
      OWk.G 2 (K34 p1 oi di l.length [(12, .d (.ptr k 0)), (43, .bf (.ai p0 1) 1 (List.map cP.enc ks)), (44, vI (ks.length : Int)), (45, vI y)]) <| OWk.D <| dj <| SWG.seq gcK <| SWG.fD <| OGt.step gcK (by kernel_rfl) <| aZ.uM (o' := some 49) (by kernel_rfl) <| OGt.kp 68 (H.set oi (.cells [.own 3 (aQ l2 us2)])) [1, 2, 3, 7, 12, 43, 44, 45, 49] (K34 p1 oi di l.length [(12, .d (.ptr k 0)), (43, .bf (.ai p0 1) 1 (List.map cP.enc ks)), (44, vI (ks.length : Int)), (45, vI y), (49, .d (oo oi di))]) (by kernel_rfl) <|
      OGt.F gcK (OWk.G 1 (K2 p1 oi di l.length p0 ks ks.length y [(49, .d (oo oi di)), (50, .d (.ptr k 0))]) <| OWk.D <| OGt.F gcK (OWk.G 1 (K2 p1 oi di l.length p0 ks ks.length y [(49, .d (oo oi di)), (50, .d (.ptr k 0)), (51, vI p1)]) <| OWk.D <| OGt.F gcK (OWk.G 1 (K2 p1 oi di l.length p0 ks ks.length y [(49, .d (oo oi di)), (50, .d (.ptr k 0)), (52, vI (IntKind.wrap .i64 (p1 - 1)))]) <| OWk.D <|
      OGt.step gcK (by kernel_rfl) <| aZ.vX (o' := some 53) (ih k (IntKind.wrap .i64 (p1 - 1)) l2 us2 v2 r hlen2 hrec) (by kernel_rfl) (mW (by simp [K105, K2, K23, K25, K3, K34, K37, K6, K81, ib, hpo, vI, vB]) rfl) fun s3 H3 r3 hP => ?_)))
     obtain ⟨us3, hlen3, hs3, rfl, rfl⟩ := hP
     obtain ⟨v3, k3⟩ := s3
     cases hs3
     refine OGt.kp 68 (H.set oi (.cells [.own 3 (aQ r.2 us3)])) [1, 2, 3, 7, 43, 44, 45, 53] (K2 p1 oi di l.length p0 ks ks.length y [(53, vI r.1)]) (by kernel_rfl) <| OGt.F gcK (OWk.G 1 (K34 p1 oi di l.length [(13, vI r.1), (43, .bf (.ai p0 1) 1 (List.map cP.enc ks)), (44, vI (ks.length : Int)), (45, vI y)]) <| OWk.D <| OGt.fin gcK (by kernel_rfl) <| dj ?_)
     -- the number is put behind the kids
     obtain ⟨x3, hx3, hroom3, rfl⟩ := vb hadd
     have hj : l.length < us3.length := by rw [hlen3]; exact aD hx3
     obtain ⟨u3, hu3⟩ : ∃ u, us3[l.length]? = some u := ⟨us3[l.length], List.getElem?_eq_getElem hj⟩
     have hxs : (aQ r.2 us3)[l.length]? = some (oa x3 u3) := by simp [aQ, List.getElem?_zipWith, hx3, hu3]
     have hks3 : (eC r.2 us3)[l.length]? = some (u3, some x3.Kids) := by simp [eC, List.getElem?_zipWith, hx3, hu3]
     have hH3 : (H.set oi (.cells [.own 3 (aQ r.2 us3)]))[oi]? = some (.cells [.own 3 (aQ r.2 us3)]) := List.getElem?_set_self (aD hoi)
     have hne3 : aQ r.2 us3 ≠ [] := fun e => by rw [e] at hxs; simp at hxs
     refine SWG.l8 (by kernel_rfl) gcK ?_
     refine OG.hav (H := H.set oi (.cells [.own 3 (aQ r.2 us3)])) (s := (v3, (eC r.2 us3).set l.length (u3, none))) 3 1023 68 (K23 p1 oi di l.length p0 ks ks.length y v3 l.length [(63, .own 1 ((x3.Kids ++ [r.1]).map (D.int .i64)))]) ?_ fun c9 => ?_
     ·refine OG.step gcK (i0 := 10) (is := []) (by kernel_rfl) ⟨aZ.zy (o' := some 64) (n := 3) (xs := aQ r.2 us3) (j := (l.length : Int)) (by kernel_rfl) hH3 (by omega) (by simpa using aD hxs) <| OG.kp 68 (H.set oi (.cells [.own 3 (aQ r.2 us3)])) [1, 2, 3, 7, 43, 44, 45, 63, 64] (K2 p1 oi di l.length p0 ks ks.length y [(63, .own 1 ((x3.Kids ++ [r.1]).map (D.int .i64))), (64, .d (.raw (k6 v3 ((l.length : Int).toNat * 3))))]) (by kernel_rfl) <|
       OG.step gcK (i0 := 11) (is := []) (by kernel_rfl) ⟨aZ.Az (o' := some 65) (n := 3) (m := (l.length : Int).toNat * 3) (fo := 2) (xs := aQ r.2 us3) (by kernel_rfl) hH3 hne3 <| OG.kp 68 (H.set oi (.cells [.own 3 (aQ r.2 us3)])) [1, 2, 3, 7, 43, 44, 45, 63, 65] (K2 p1 oi di l.length p0 ks ks.length y [(63, .own 1 ((x3.Kids ++ [r.1]).map (D.int .i64))), (65, .d (.raw (k6 v3 ((l.length : Int).toNat * 3 + 2))))]) (by kernel_rfl) <|
       OG.step gcK (i0 := 12) (is := []) (by kernel_rfl) ⟨aZ.BH (p := (l.length : Int).toNat) (q := 2) (n := 3) (s0 := 63) (xs := aQ r.2 us3) (cs := [.int .i64 x3.Level, .list 3 (List.map ab x3.Entries), .raw u3]) (ks := x3.Kids ++ [r.1]) (by kernel_rfl) hH3 hxs (by simp) (mW (by simp [K105, K2, K23, K25, K3, K34, K37, K6, K81, ib, hpo, vI, vB]) rfl) fun u4 => ?_, trivial⟩, trivial⟩, trivial⟩
      refine OG.fin gcK (by kernel_rfl) ?_
      refine yn <| dj ?_
      refine SWG.kp 68 ((H.set oi (.cells [.own 3 (aQ r.2 us3)])).set oi (.cells [.own 3 ((aQ r.2 us3).set (l.length : Int).toNat (.agg ([.int .i64 x3.Level, .list 3 (List.map ab x3.Entries), .raw u3].set 2 (.raw u4))))])) [1, 2, 3, 7, 43, 44, 45] (K2 p1 oi di l.length p0 ks ks.length y []) (by kernel_rfl) ?_
      rw [List.set_set]
      have e3 : (aQ r.2 us3).set (l.length : Int).toNat (.agg ([.int .i64 x3.Level, .list 3 (List.map ab x3.Entries), .raw u3].set 2 (.raw u4))) = aQ (r.2.set l.length { x3 with Kids := x3.Kids ++ [r.1] }) (us3.set l.length u4) := by
       simp only [aQ, jO]
       rfl
      have e4 : (eC r.2 us3).set (l.length : Int).toNat (u4, some (x3.Kids ++ [r.1])) = eC (r.2.set l.length { x3 with Kids := x3.Kids ++ [r.1] }) (us3.set l.length u4) := by
       simp only [eC, jO]
       rfl
      have e5 : (l.length : Int).toNat = l.length := rfl
      rw [e3]
      refine SWG.of gcK <| SW.au <| OWk.G 2 (K34 p1 oi di l.length [(43, .bf (.ai p0 1) 1 (List.map cP.enc ks)), (44, vI (ks.length : Int)), (45, vI (IntKind.wrap .i64 (y + 1)))]) <| OWk.D ?_
      exact ⟨_, ho4.symm, 68, [1, 2, 3, 7, 43, 44, 45], _, _, by kernel_rfl, us3.set l.length u4, by simp [hlen3], (by
       show List.set (List.set (eC r.2 us3) l.length (u3, none)) (l.length : Int).toNat _ = _
       rw [e5, List.set_set]
       exact e4), rfl⟩
     refine OG.hav (H := H.set oi (.cells [.own 3 (aQ r.2 us3)])) (s := (v3, (eC r.2 us3).set l.length (u3, none))) 4 1022 68 (K81 p1 oi di l.length p0 ks ks.length y l.length [(63, .own 1 ((x3.Kids ++ [r.1]).map (D.int .i64)))]) (OG.step gcK (i0 := 0) (is := []) (by kernel_rfl) ⟨aZ.nL (o' := some 54) (by kernel_rfl) <| OG.kp 68 (H.set oi (.cells [.own 3 (aQ r.2 us3)])) [1, 2, 3, 7, 43, 44, 45, 54, 55, 63] (K23 p1 oi di l.length p0 ks ks.length y v3 l.length [(63, .own 1 ((x3.Kids ++ [r.1]).map (D.int .i64)))]) (by kernel_rfl) <| OG.at_ c9, trivial⟩) fun c8 => ?_
     refine OG.hav (H := H.set oi (.cells [.own 3 (aQ r.2 us3)])) (s := (v3, eC r.2 us3)) 4 511 68 (K23 p1 oi di l.length p0 ks ks.length y v3 l.length [(60, .d (.raw u3)), (62, .own 1 (List.map (D.int .i64) [r.1]))]) (OG.step gcK (i0 := 9) (is := []) (by kernel_rfl) ⟨aZ.zT (t := 60) (p := l.length) (u := u3) (ks := x3.Kids) (by kernel_rfl) hks3 (mW (by simp [K105, K2, K23, K25, K3, K34, K37, K6, K81, ib, hpo, vI, vB]) rfl) hH3 <| aZ.kp 68 (H.set oi (.cells [.own 3 (aQ r.2 us3)])) [1, 2, 3, 7, 43, 44, 45, 54, 55, 60, 62] (K23 p1 oi di l.length p0 ks ks.length y v3 l.length [(60, .own 1 (List.map (D.int .i64) x3.Kids)), (62, .own 1 (List.map (D.int .i64) [r.1]))]) (by kernel_rfl) <| aZ.W gcK (OWk.app 68 (H.set oi (.cells [.own 3 (aQ r.2 us3)])) (s := 60) (d := 63) (w := 1) [1, 2, 3, 7, 43, 44, 45, 54, 55, 63] (zs := List.map (D.int .i64) (x3.Kids ++ [r.1])) (K23 p1 oi di l.length p0 ks ks.length y v3 l.length [(63, .own 1 ((x3.Kids ++ [r.1]).map (D.int .i64)))]) (ys := List.map (D.int .i64) [r.1]) (by kernel_rfl) (aY) (bY hroom3) (by kernel_rfl) <| OWk.D <| OG.at_ c9), trivial⟩) fun c121 => ?_
     refine OG.hav (H := H.set oi (.cells [.own 3 (aQ r.2 us3)])) (s := (v3, eC r.2 us3)) 5 255 68 (K23 p1 oi di l.length p0 ks ks.length y v3 l.length [(60, .d (.raw u3)), (61, vI r.1)]) (OG.step gcK (i0 := 8) (is := []) (by kernel_rfl) ⟨aZ.W gcK (OWk.G 1 (K23 p1 oi di l.length p0 ks ks.length y v3 l.length [(60, .d (.raw u3)), (62, .own 1 (List.map (D.int .i64) [r.1]))]) <| OWk.D <| OG.at_ c121), trivial⟩) fun c120 => ?_
     refine OG.hav (H := H.set oi (.cells [.own 3 (aQ r.2 us3)])) (s := (v3, eC r.2 us3)) 5 447 68 (K23 p1 oi di l.length p0 ks ks.length y v3 l.length [(59, .bO (.ai oi 0) [.raw u3]), (62, .own 1 (List.map (D.int .i64) [r.1]))]) (OG.step gcK (i0 := 6) (is := []) (by kernel_rfl) ⟨aZ.W gcK (OWk.G 1 (K23 p1 oi di l.length p0 ks ks.length y v3 l.length [(60, .d (.raw u3)), (62, .own 1 (List.map (D.int .i64) [r.1]))]) <| OWk.D <| OG.at_ c121), trivial⟩) fun c111 => ?_
     refine OG.hav (H := H.set oi (.cells [.own 3 (aQ r.2 us3)])) (s := (v3, eC r.2 us3)) 6 191 68 (K23 p1 oi di l.length p0 ks ks.length y v3 l.length [(59, .bO (.ai oi 0) [.raw u3]), (61, vI r.1)]) (OG.step gcK (i0 := 6) (is := [8]) (by kernel_rfl) ⟨aZ.W gcK (OWk.G 1 (K23 p1 oi di l.length p0 ks ks.length y v3 l.length [(60, .d (.raw u3)), (61, vI r.1)]) <| OWk.D <| OG.at_ c120), aZ.W gcK (OWk.G 1 (K23 p1 oi di l.length p0 ks ks.length y v3 l.length [(59, .bO (.ai oi 0) [.raw u3]), (62, .own 1 (List.map (D.int .i64) [r.1]))]) <| OWk.D <| OG.at_ c111), trivial⟩) fun c110 => ?_
     refine OG.hav (H := H.set oi (.cells [.own 3 (aQ r.2 us3)])) (s := (v3, eC r.2 us3)) 8 395 68 (K23 p1 oi di l.length p0 ks ks.length y v3 l.length [(57, vI (l.length : Int)), (62, .own 1 (List.map (D.int .i64) [r.1]))]) (OG.step gcK (i0 := 2) (is := []) (by kernel_rfl) ⟨aZ.W gcK (OWk.O (d := some 56) (s := .bf (.ai oi 0) 3 (aQ r.2 us3)) (K23 p1 oi di l.length p0 ks ks.length y v3 l.length [(56, .bf (.ai oi 0) 3 (aQ r.2 us3)), (57, vI (l.length : Int)), (62, .own 1 (List.map (D.int .i64) [r.1]))]) (BAt.ldO hH3 rfl (by kernel_rfl)) <| OWk.D <| OG.B (dd := some 58) (x := .bO (.ai oi 0) (oa x3 u3).cells) 4 (K23 p1 oi di l.length p0 ks ks.length y v3 l.length [(58, .bO (.ai oi 0) (oa x3 u3).cells), (62, .own 1 (List.map (D.int .i64) [r.1]))]) (BAt.ixO (l := some (.ai oi 0)) (n := 3) (j := (l.length : Int)) (by kernel_rfl) (by omega) hxs) <| OG.b 5 (K23 p1 oi di l.length p0 ks ks.length y v3 l.length [(59, .bO (.ai oi 0) [.raw u3]), (62, .own 1 (List.map (D.int .i64) [r.1]))]) <| OG.at_ c111), trivial⟩) fun c101 => ?_
     refine OG.hav (H := H.set oi (.cells [.own 3 (aQ r.2 us3)])) (s := (v3, eC r.2 us3)) 9 139 68 (K23 p1 oi di l.length p0 ks ks.length y v3 l.length [(57, vI (l.length : Int)), (61, vI r.1)]) (OG.step gcK (i0 := 2) (is := [8]) (by kernel_rfl) ⟨aZ.W gcK (OWk.O (d := some 56) (s := .bf (.ai oi 0) 3 (aQ r.2 us3)) (K23 p1 oi di l.length p0 ks ks.length y v3 l.length [(56, .bf (.ai oi 0) 3 (aQ r.2 us3)), (57, vI (l.length : Int)), (61, vI r.1)]) (BAt.ldO hH3 rfl (by kernel_rfl)) <| OWk.D <| OG.B (dd := some 58) (x := .bO (.ai oi 0) (oa x3 u3).cells) 4 (K23 p1 oi di l.length p0 ks ks.length y v3 l.length [(58, .bO (.ai oi 0) (oa x3 u3).cells), (61, vI r.1)]) (BAt.ixO (l := some (.ai oi 0)) (n := 3) (j := (l.length : Int)) (by kernel_rfl) (by omega) hxs) <| OG.b 5 (K23 p1 oi di l.length p0 ks ks.length y v3 l.length [(59, .bO (.ai oi 0) [.raw u3]), (61, vI r.1)]) <| OG.at_ c110), aZ.W gcK (OWk.G 1 (K23 p1 oi di l.length p0 ks ks.length y v3 l.length [(57, vI (l.length : Int)), (62, .own 1 (List.map (D.int .i64) [r.1]))]) <| OWk.D <| OG.at_ c101), trivial⟩) fun c100 => ?_
     refine OG.hav (H := H.set oi (.cells [.own 3 (aQ r.2 us3)])) (s := (v3, eC r.2 us3)) 5 510 68 (K81 p1 oi di l.length p0 ks ks.length y l.length [(60, .d (.raw u3)), (62, .own 1 (List.map (D.int .i64) [r.1]))]) (OG.step gcK (i0 := 0) (is := [9]) (by kernel_rfl) ⟨aZ.nL (o' := some 54) (by kernel_rfl) <| OG.kp 68 (H.set oi (.cells [.own 3 (aQ r.2 us3)])) [1, 2, 3, 7, 43, 44, 45, 54, 55, 60, 62] (K23 p1 oi di l.length p0 ks ks.length y v3 l.length [(60, .d (.raw u3)), (62, .own 1 (List.map (D.int .i64) [r.1]))]) (by kernel_rfl) <| OG.at_ c121, aZ.zT (t := 60) (p := l.length) (u := u3) (ks := x3.Kids) (by kernel_rfl) hks3 (mW (by simp [K105, K2, K23, K25, K3, K34, K37, K6, K81, ib, hpo, vI, vB]) rfl) hH3 <| aZ.kp 68 (H.set oi (.cells [.own 3 (aQ r.2 us3)])) [1, 2, 3, 7, 43, 44, 45, 55, 60, 62] (K81 p1 oi di l.length p0 ks ks.length y l.length [(60, .own 1 (List.map (D.int .i64) x3.Kids)), (62, .own 1 (List.map (D.int .i64) [r.1]))]) (by kernel_rfl) <| aZ.W gcK (OWk.app 68 (H.set oi (.cells [.own 3 (aQ r.2 us3)])) (s := 60) (d := 63) (w := 1) [1, 2, 3, 7, 43, 44, 45, 55, 63] (zs := List.map (D.int .i64) (x3.Kids ++ [r.1])) (K81 p1 oi di l.length p0 ks ks.length y l.length [(63, .own 1 ((x3.Kids ++ [r.1]).map (D.int .i64)))]) (ys := List.map (D.int .i64) [r.1]) (by kernel_rfl) (aY) (bY hroom3) (by kernel_rfl) <| OWk.D <| OG.at_ c8), trivial⟩) fun c021 => ?_
     refine OG.hav (H := H.set oi (.cells [.own 3 (aQ r.2 us3)])) (s := (v3, eC r.2 us3)) 6 254 68 (K81 p1 oi di l.length p0 ks ks.length y l.length [(60, .d (.raw u3)), (61, vI r.1)]) (OG.step gcK (i0 := 0) (is := [8]) (by kernel_rfl) ⟨aZ.nL (o' := some 54) (by kernel_rfl) <| OG.kp 68 (H.set oi (.cells [.own 3 (aQ r.2 us3)])) [1, 2, 3, 7, 43, 44, 45, 54, 55, 60, 61] (K23 p1 oi di l.length p0 ks ks.length y v3 l.length [(60, .d (.raw u3)), (61, vI r.1)]) (by kernel_rfl) <| OG.at_ c120, aZ.W gcK (OWk.G 1 (K81 p1 oi di l.length p0 ks ks.length y l.length [(60, .d (.raw u3)), (62, .own 1 (List.map (D.int .i64) [r.1]))]) <| OWk.D <| OG.at_ c021), trivial⟩) fun c020 => ?_
     refine OG.hav (H := H.set oi (.cells [.own 3 (aQ r.2 us3)])) (s := (v3, eC r.2 us3)) 6 446 68 (K81 p1 oi di l.length p0 ks ks.length y l.length [(59, .bO (.ai oi 0) [.raw u3]), (62, .own 1 (List.map (D.int .i64) [r.1]))]) (OG.step gcK (i0 := 0) (is := [6]) (by kernel_rfl) ⟨aZ.nL (o' := some 54) (by kernel_rfl) <| OG.kp 68 (H.set oi (.cells [.own 3 (aQ r.2 us3)])) [1, 2, 3, 7, 43, 44, 45, 54, 55, 59, 62] (K23 p1 oi di l.length p0 ks ks.length y v3 l.length [(59, .bO (.ai oi 0) [.raw u3]), (62, .own 1 (List.map (D.int .i64) [r.1]))]) (by kernel_rfl) <| OG.at_ c111, aZ.W gcK (OWk.G 1 (K81 p1 oi di l.length p0 ks ks.length y l.length [(60, .d (.raw u3)), (62, .own 1 (List.map (D.int .i64) [r.1]))]) <| OWk.D <| OG.at_ c021), trivial⟩) fun c011 => ?_
     refine OG.hav (H := H.set oi (.cells [.own 3 (aQ r.2 us3)])) (s := (v3, eC r.2 us3)) 7 190 68 (K81 p1 oi di l.length p0 ks ks.length y l.length [(59, .bO (.ai oi 0) [.raw u3]), (61, vI r.1)]) (OG.step gcK (i0 := 0) (is := [6, 8]) (by kernel_rfl) ⟨aZ.nL (o' := some 54) (by kernel_rfl) <| OG.kp 68 (H.set oi (.cells [.own 3 (aQ r.2 us3)])) [1, 2, 3, 7, 43, 44, 45, 54, 55, 59, 61] (K23 p1 oi di l.length p0 ks ks.length y v3 l.length [(59, .bO (.ai oi 0) [.raw u3]), (61, vI r.1)]) (by kernel_rfl) <| OG.at_ c110, aZ.W gcK (OWk.G 1 (K81 p1 oi di l.length p0 ks ks.length y l.length [(60, .d (.raw u3)), (61, vI r.1)]) <| OWk.D <| OG.at_ c020), aZ.W gcK (OWk.G 1 (K81 p1 oi di l.length p0 ks ks.length y l.length [(59, .bO (.ai oi 0) [.raw u3]), (62, .own 1 (List.map (D.int .i64) [r.1]))]) <| OWk.D <| OG.at_ c011), trivial⟩) fun c010 => ?_
     refine OG.hav (H := H.set oi (.cells [.own 3 (aQ r.2 us3)])) (s := (v3, eC r.2 us3)) 9 394 68 (K81 p1 oi di l.length p0 ks ks.length y l.length [(57, vI (l.length : Int)), (62, .own 1 (List.map (D.int .i64) [r.1]))]) (OG.step gcK (i0 := 0) (is := [2]) (by kernel_rfl) ⟨aZ.nL (o' := some 54) (by kernel_rfl) <| OG.kp 68 (H.set oi (.cells [.own 3 (aQ r.2 us3)])) [1, 2, 3, 7, 43, 44, 45, 54, 55, 57, 62] (K23 p1 oi di l.length p0 ks ks.length y v3 l.length [(57, vI (l.length : Int)), (62, .own 1 (List.map (D.int .i64) [r.1]))]) (by kernel_rfl) <| OG.at_ c101, aZ.W gcK (OWk.O (d := some 56) (s := .bf (.ai oi 0) 3 (aQ r.2 us3)) (K81 p1 oi di l.length p0 ks ks.length y l.length [(56, .bf (.ai oi 0) 3 (aQ r.2 us3)), (57, vI (l.length : Int)), (62, .own 1 (List.map (D.int .i64) [r.1]))]) (BAt.ldO hH3 rfl (by kernel_rfl)) <| OWk.D <| OG.B (dd := some 58) (x := .bO (.ai oi 0) (oa x3 u3).cells) 4 (K81 p1 oi di l.length p0 ks ks.length y l.length [(58, .bO (.ai oi 0) (oa x3 u3).cells), (62, .own 1 (List.map (D.int .i64) [r.1]))]) (BAt.ixO (l := some (.ai oi 0)) (n := 3) (j := (l.length : Int)) (by kernel_rfl) (by omega) hxs) <| OG.b 5 (K81 p1 oi di l.length p0 ks ks.length y l.length [(59, .bO (.ai oi 0) [.raw u3]), (62, .own 1 (List.map (D.int .i64) [r.1]))]) <| OG.at_ c011), trivial⟩) fun c001 => ?_
     refine OG.hav (H := H.set oi (.cells [.own 3 (aQ r.2 us3)])) (s := (v3, eC r.2 us3)) 10 138 68 (K81 p1 oi di l.length p0 ks ks.length y l.length [(57, vI (l.length : Int)), (61, vI r.1)]) (OG.step gcK (i0 := 0) (is := [2, 8]) (by kernel_rfl) ⟨aZ.nL (o' := some 54) (by kernel_rfl) <| OG.kp 68 (H.set oi (.cells [.own 3 (aQ r.2 us3)])) [1, 2, 3, 7, 43, 44, 45, 54, 55, 57, 61] (K23 p1 oi di l.length p0 ks ks.length y v3 l.length [(57, vI (l.length : Int)), (61, vI r.1)]) (by kernel_rfl) <| OG.at_ c100, aZ.W gcK (OWk.O (d := some 56) (s := .bf (.ai oi 0) 3 (aQ r.2 us3)) (K81 p1 oi di l.length p0 ks ks.length y l.length [(56, .bf (.ai oi 0) 3 (aQ r.2 us3)), (57, vI (l.length : Int)), (61, vI r.1)]) (BAt.ldO hH3 rfl (by kernel_rfl)) <| OWk.D <| OG.B (dd := some 58) (x := .bO (.ai oi 0) (oa x3 u3).cells) 4 (K81 p1 oi di l.length p0 ks ks.length y l.length [(58, .bO (.ai oi 0) (oa x3 u3).cells), (61, vI r.1)]) (BAt.ixO (l := some (.ai oi 0)) (n := 3) (j := (l.length : Int)) (by kernel_rfl) (by omega) hxs) <| OG.b 5 (K81 p1 oi di l.length p0 ks ks.length y l.length [(59, .bO (.ai oi 0) [.raw u3]), (61, vI r.1)]) <| OG.at_ c010), aZ.W gcK (OWk.G 1 (K81 p1 oi di l.length p0 ks ks.length y l.length [(57, vI (l.length : Int)), (62, .own 1 (List.map (D.int .i64) [r.1]))]) <| OWk.D <| OG.at_ c001), trivial⟩) fun c000 => ?_
     exact OG.b 1 (K34 p1 oi di l.length [(13, vI r.1), (43, .bf (.ai p0 1) 1 (List.map cP.enc ks)), (44, vI (ks.length : Int)), (45, vI y), (55, vI (l.length : Int))]) <| OG.b 3 (K34 p1 oi di l.length [(13, vI r.1), (43, .bf (.ai p0 1) 1 (List.map cP.enc ks)), (44, vI (ks.length : Int)), (45, vI y), (55, vI (l.length : Int)), (57, vI (l.length : Int))]) <| OG.b 7 (K81 p1 oi di l.length p0 ks ks.length y l.length [(57, vI (l.length : Int)), (61, vI r.1)]) <| OG.at_ c000
   ·obtain ⟨rfl, us', hl', hs', rfl⟩ := hE
    refine ym <| dj <| SWG.seq gcK <| SWG.of gcK <| SW.au <| OWk.G 2 [(6, vI (l.length : Int))] <| OWk.D <| dj <| SWG.of gcK fun a w g hr => wp_ret ⟨_, g, ?_, hr, Fr.refl _ _ _⟩
    exact ⟨.inr rfl, _, ⟨us', hl', hs', rfl, rfl⟩, by kernel_rfl⟩
theorem Rel.BF {st : St} {a : Go.Act} {w : World} {g : Gh} {i : Nat} {y : D} (hr : Rel st a w g) (hi : st.H[i]? = some (.cells [.d y])) (hn : st.tmps.all eh = true) :
  ∃ g', Rel ⟨st.tmps, st.H.set i .hole⟩ a w g' ∧ Fr false g w g' w ∧ (∀ o, o ≠ .obj i → az o g w g' w) ∧ g'.ρ = g.ρ ∧ ∃ (k : Nat) (c : Array Go.Value) (T : TypeId) (fz : Nat × Nat) (v : Go.Value), g'.ρ[i]? = some k ∧ g'.ow k = .out ∧ w.heap[k]? = some (.cells c T fz) ∧ c[0]? = some v ∧ v.oneCell' = true ∧ Rd g' w v y := by
 let rn : Own → Own := fun o => match o with
  | .obj j => if j = i then .out else .obj j
  | o => o
 have hk : ∀ o, o ≠ .obj i → az o g w (g.ren rn) w := fun o h1 => az.ren (by
  cases o with
  | obj j => simp only [rn]; rw [if_neg (fun e => h1 (by rw [e]))]
  | _ => rfl)
 have hf : az .free g w (g.ren rn) w := hk _ (by simp)
 have hout : az .out g w (g.ren rn) w := hk _ (by simp)
 obtain ⟨k, c, T, f1, f2, f3, f4, f5⟩ := hr.hp.2 i _ hi
 refine ⟨g.ren rn, ?_, ⟨Nat.le_refl _, hf, hout, fun _ _ h => h, nofun, nofun, nofun, ⟨rfl, rfl⟩⟩, hk, rfl, ?_⟩
 ·refine Rel.step hr hr.len hr.cH (fun _ _ h => h) (fun t' s hs => ?_) ⟨by simp [Gh.ren, hr.hp.1], fun i' o' hi' => ?_⟩
  ·refine .inr (.inr ⟨hs, rfl, fun o' ho' => hk o' (fun e2 => by subst e2; exact absurd ho' iT), fun s0 e0 => ⟨rfl, fun x hx hb => ⟨x, hx, rfl⟩⟩⟩)
  ·simp only at hi'
   by_cases e : i = i'
   ·subst e
    rw [List.getElem?_set_self (aD hi)] at hi'
    cases hi'
    trivial
   ·rw [List.getElem?_set_ne e] at hi'
    exact (hr.hp.2 i' o' hi').jD hf (hk _ (fun e2 => by cases e2; exact e rfl)) (fun j => hk _ (by simp)) (fun _ _ h => h)
 ·obtain ⟨u, u1, u2, u3⟩ := f5 0 _ rfl
  exact ⟨k, c, T, (0, 0), u, f1, by simp [Gh.ren, f2, rn], f3, u1, u3, (show Rd g w u y from u2).aG hf (fun _ _ h => h)⟩
theorem SW.AB {P : Program} {st : St} {Q : Exit → St → Prop} {c : Code} (oi di m : Nat) (xs : List D) (y : D) (n : Nat) (H : List ar) (L : List Nat) (ll : List (Nat × SV)) (hoi : st.H[oi]? = some (.cells [.own m xs])) (hdi : st.H[di]? = some (.cells [.d y])) (hn : st.tmps.all eh = true)
  (hst : aV n L ⟨st.tmps, st.H.set di .hole⟩ = some (ll, H)) (h : ∀ v, SWG P (CK oi di y) (RK oi) (v, []) c (sp n ll H) (fun _ e st => Q e st)) : SW P false c st Q := by
 intro a w g hr
 have hne : oi ≠ di := fun e => by subst e; rw [hoi] at hdi; cases hdi
 obtain ⟨g1, r1, f1, hk, hρ, k, c0, T, fz, v, d1, d2, d3, d4, d5, d6⟩ := hr.BF hdi hn
 obtain ⟨kv, cv, Tv, b1, b2, b3, b4, b5⟩ := hr.hp.2 oi _ hoi
 obtain ⟨u, u1, u2, u3⟩ := b5 0 _ rfl
 obtain ⟨x1, x2⟩ := hk (.obj oi) (fun e => by cases e; exact hne rfl) kv _ b2 b3
 have hC : CK oi di y (u, []) g1 w := ⟨⟨kv, cv, Tv, _, by rw [hρ]; exact b1, x1, x2, u1, u3⟩, fun p u' ks hp => by simp at hp, k, c0, T, fz, v, d1, d2, d3, d4, d5, d6⟩
 refine Code.wp_mono (fun e a' w' hh => ?_) (h u a w g1 (r1.bk (ay hst)) hC)
 obtain ⟨s', st', g', q, r, c', f⟩ := hh
 exact ⟨st', g', q, r, f1.trans (FrO.fr f)⟩
theorem OGt.Cx {P : Program} {oi di k t : Nat} {dd : D} {ops : Array Oper} {st : St} {v : Go.Value} {l : List Node} {us : List Go.Value} {K : Go.Value × KS → St → Prop} (ht : st.tmps[t]? = some (.d (.raw v))) (hlen : us.length = l.length) (hH : st.H[oi]? = some (.cells [.own 3 (aQ l us)]))
  (hn : st.tmps.all (ib oi) = true) (h : OGt P (CK oi di dd) (RK oi) ops k (v, []) ⟨(st.set t (.d (.list 3 (l.map aI)))).tmps, st.H.set oi .hole⟩ K) : OGt P (CK oi di dd) (RK oi) ops k (v, eC l us) st K := by
 intro a w g hr hc X hX
 let rn : Own → Own := fun o => match o with
  | .lst (.ai j c) => if j = oi then .free else .lst (.ai j c)
  | o => o
 have hk : ∀ o, (∀ c, o ≠ .lst (.ai oi c)) → az o g w (g.ren rn) w := fun o h1 => az.ren (by
  cases o with
  | lst l =>
   cases l with
   | ai j c => simp only [rn]; rw [if_neg (fun e => h1 c (by rw [e]))]
   | _ => rfl
  | _ => rfl)
 have hrn : ∀ c, rn (.lst (.ai oi c)) = .free := fun c => by simp [rn]
 have hf : az .free g w (g.ren rn) w := hk _ (by simp)
 obtain ⟨kv, cv, Tv, m1, m2, m3, m4, m5, hO⟩ := CK.main hr.hp hc hH
 have kp : ∀ {v : Go.Value} {d : D}, Rd g w v d → Rd (g.ren rn) w v d := fun h => h.aG hf (fun _ _ h => h)
 have hlist : Rd (g.ren rn) w v (.list 3 (l.map aI)) := by
  rcases hO with ⟨h0, a0, h1⟩ | ⟨km, off, cap, c, T0, uf, e1, e2, e3, e4, e5, e6, e7, e8⟩
  ·have hl0 : l = [] := by
    have := jP hlen
    rw [h0] at this
    cases l with
    | nil => rfl
    | cons _ _ => simp at this
   subst hl0
   have h1 : v = _ := h1
   rw [h1]
   exact .iD
  ·have e1 : v = _ := e1
   rw [e1]
   have hget : ∀ (i : Nat) (x : Node), l[i]? = some x → ∃ u, us[i]? = some u ∧ (aQ l us)[i]? = some (oa x u) := fun i x hx => by
    have hlt : i < us.length := by rw [hlen]; exact aD hx
    exact ⟨us[i], List.getElem?_eq_getElem hlt, by simp [aQ, List.getElem?_zipWith, hx, List.getElem?_eq_getElem hlt]⟩
   refine .list uf (by simp [Gh.ren, e2, hrn]) e3 (by rw [jP hlen]; simp) e4 (fun i y hy => ?_) (fun i y hy j z hz => ?_) (fun i y hy j z hz => ?_)
   ·simp only [List.getElem?_map, Option.map_eq_some_iff] at hy
    obtain ⟨x, hx, rfl⟩ := hy
    rfl
   ·simp only [List.getElem?_map, Option.map_eq_some_iff] at hy
    obtain ⟨x, hx, rfl⟩ := hy
    obtain ⟨u, hu, hxs⟩ := hget i x hx
    have hj : j < 3 := aD hz
    match j, hj with
    | 0, _ => exact e7 i _ hxs 0 _ rfl
    | 1, _ => exact e7 i _ hxs 1 _ rfl
    | 2, _ => exact e7 i _ hxs 2 _ rfl
   ·simp only [List.getElem?_map, Option.map_eq_some_iff] at hy
    obtain ⟨x, hx, rfl⟩ := hy
    obtain ⟨u, hu, hxs⟩ := hget i x hx
    have hj : j < 3 := aD hz
    match j, hj with
    | 0, _ => cases hz; exact kp (e8 i _ hxs 0 _ rfl)
    | 1, _ => cases hz; exact kp (e8 i _ hxs 1 _ rfl)
    | 2, _ =>
     cases hz
     have hu2 : Rd g w (uf i 2) (.raw u) := e8 i _ hxs 2 _ rfl
     have hu3 : uf i 2 = u := by generalize uf i 2 = z at hu2; cases hu2; rfl
     rw [hu3]
     have hks : (eC l us)[i]? = some (u, some x.Kids) := by simp [eC, List.getElem?_zipWith, hx, hu]
     have hro := hc.2.1 i u x.Kids hks
     exact cN.free (l := .ai oi (i + 1)) rfl (by simp [hrn]) (bA.iI hro)
 have hrel : Rel ⟨(st.set t (.d (.list 3 (l.map aI)))).tmps, st.H.set oi .hole⟩ a w (g.ren rn) := by
  refine Rel.step hr (by simp [St.set, hr.len]) hr.cH (fun _ _ h => h) (fun t' sv hs => ?_) ⟨by simp [Gh.ren, hr.hp.1], fun i' o' hi' => ?_⟩
  ·by_cases e : t = t'
   ·subst e
    simp only [St.set] at hs
    rw [List.getElem?_set_self (aD ht)] at hs
    cases hs
    refine .inr (.inl ?_)
    have hv : Rd g w (valOf a t) (.raw v) := hr.tmp t _ ht
    have hv2 : valOf a t = v := by generalize valOf a t = z at hv; cases hv; rfl
    show Rd _ _ (valOf a t) _
    rw [hv2]
    exact hlist
   ·simp only [St.set] at hs
    rw [List.getElem?_set_ne e] at hs
    have hnh : ib oi sv = true := List.all_eq_true.1 hn sv (List.mem_iff_getElem?.2 ⟨t', hs⟩)
    refine .inr (.inr ⟨hs, rfl, fun o' ho' => hk o' (fun c e2 => ?_), fun s0 e0 => ⟨rfl, fun y hy hb => ⟨y, ?_, rfl⟩⟩⟩)
    ·subst e2
     cases sv <;> simp [eS] at ho'
     ·subst ho'; simp [ib] at hnh
     ·subst ho'; simp [ib] at hnh
    ·have hne : t ≠ s0 := fun e3 => by
      subst e3
      rw [ht] at hy
      cases hy
      simp [dt] at hb
     show ((st.set t _).tmps)[s0]? = some y
     simp only [St.set]
     rw [List.getElem?_set_ne hne]
     exact hy
  ·simp only at hi'
   by_cases e : oi = i'
   ·subst e
    rw [List.getElem?_set_self (aD hH)] at hi'
    cases hi'
    trivial
   ·rw [List.getElem?_set_ne e] at hi'
    exact (hr.hp.2 i' o' hi').jD hf (hk _ (by simp)) (fun j => hk _ (fun c e2 => by cases e2; exact e rfl)) (fun _ _ h => h)
 have hfr : FrO oi g w (g.ren rn) w := ⟨Nat.le_refl _, hf, hk _ (by simp), rfl, fun j _ => hk _ (by simp), fun j c hj => hk _ (fun c' e => by cases e; exact hj rfl), cq.refl _⟩
 have hC' : CK oi di dd (v, []) (g.ren rn) w := by
  obtain ⟨⟨kv, c, T, fz, a1, a2, a3, a4, a5⟩, b, ⟨k, c', T', fz', v', d1, d2, d3, d4, d5, d6⟩⟩ := hc
  exact ⟨⟨kv, c, T, fz, a1, by simp [Gh.ren, a2, rn], a3, a4, a5⟩, fun p u ks hp => by simp at hp, k, c', T', fz', v', d1, by simp [Gh.ren, d2, rn], d3, d4, d5, d6.aG hf (fun _ _ h => h)⟩
 exact h a w (g.ren rn) hrel hC' X fun s' st' a' w' g2 q r c f => hX s' st' a' w' g2 q r c (hfr.trans f)
def fw (fuel : Nat) (p0 : Nat) (H : Hp) : Option (((List Node)) × Hp) :=
 (bg cP.cell ((H ++ [ar.hole, ar.hole]).set H.length (ar.cells [.own 3 []])) p0 4).bind fun x => x.bind fun i =>
 (dC fuel p0 ((H ++ [ar.hole, ar.hole]).set H.length (ar.cells [.own 3 []]))).bind fun lv =>
 (gx fuel (H ++ [ar.hole, ar.hole]) fuel i (IntKind.wrap .i64 (lv - 1)) []).bind fun r => some (r.2, H ++ [ar.hole, ar.hole])
def K15 := fun a0 a1 a2 (t : SL) => ((3, .d (.ptr a0 0)) :: (8, .d (oo a1 (a2 ++ [ar.cells [.own 3 []]]).length)) :: t : SL)
def K19 := fun a0 a1 (t : SL) => ((3, .d (.ptr a0 0)) :: (4, .d (.ptr (a1 ++ [ar.cells [.own 3 []]]).length 0)) :: t : SL)
def K33 := fun a0 a1 a2 (t : SL) => ((0, .d (.ptr a0 0)) :: (3, .d (.ptr a1 0)) :: (4, .d (.ptr (a2 ++ [ar.cells [.own 3 []]]).length 0)) :: t : SL)
theorem n8 {fuel : Nat} {p0 : Nat} {H : Hp} {r : ((List Node)) × Hp} (h : fw fuel p0 H = some r) : SC Try.prog false 32 [.d (.ptr p0 0)] H (.d (.list 3 (List.map aI r.1))) r.2 := by
 unfold fw at h
 obtain ⟨x, hroot, h1⟩ := aa h
 obtain ⟨i, rfl, h2⟩ := aa h1
 obtain ⟨lv, hlv, h3⟩ := aa h2
 obtain ⟨r1, hn, h4⟩ := aa h3
 cases h4
 clear h h1 h2 h3
 refine SC.ga Try.func32 rfl <| SW.kp 18 H [0] [(0, .d (.ptr p0 0))] (by kernel_rfl) <| SW.R 1 [(0, .d (.ptr p0 0))] <| SW.seq <| SW.S <| OWk.G 2 [(0, .d (.ptr p0 0)), (6, vB false)] <| OWk.D <| ad <|
  SW.fh (by kernel_rfl) <| SW.skip <| ad <| SW.seq <| SW.au <|
  OWk.iQ (n := 18) (H := (H ++ [ar.cells [.own 3 []]])) (d := some 3) (b := false) [(0, 3, true)] [0, 3] [(0, .d (.ptr p0 0)), (3, .d (.ptr H.length 0))] (q := ((H ++ [ar.cells [.own 3 []]]), H.length)) rfl (by kernel_rfl) rfl (by kernel_rfl) <| OWk.D <| ad <| SW.seq <| SW.au <|
  OWk.iQ (n := 18) (H := ((H ++ [ar.cells [.own 3 []]]) ++ [ar.cells [.d .eZ]])) (d := some 4) (b := false) [] [0, 3, 4] (K33 p0 H.length H []) (q := (((H ++ [ar.cells [.own 3 []]]) ++ [ar.cells [.d .eZ]]), (H ++ [ar.cells [.own 3 []]]).length)) rfl (by kernel_rfl) rfl (by kernel_rfl) <| OWk.D <| ad <| SW.seq <| SW.au <|
  OWk.G 1 (K33 p0 H.length H [(7, .d (oo H.length (H ++ [ar.cells [.own 3 []]]).length))]) <| OWk.BE (n := 18) (H0 := ((H ++ [ar.cells [.own 3 []]]) ++ [ar.cells [.d .eZ]])) (H := ((H ++ [ar.cells [.own 3 []]]) ++ [ar.cells [.d (oo H.length (H ++ [ar.cells [.own 3 []]]).length)]])) (y := (oo H.length (H ++ [ar.cells [.own 3 []]]).length)) (i := (H ++ [ar.cells [.own 3 []]]).length) (off := 0) [0, 3, 4] (K33 p0 H.length H []) (qZ (H ++ [ar.cells [.own 3 []]]) _ _) (by kernel_rfl) (by kernel_rfl) <| OWk.D <| ad <|
  SW.AB H.length (H ++ [ar.cells [.own 3 []]]).length 3 [] (oo H.length (H ++ [ar.cells [.own 3 []]]).length) 18 (((H ++ [ar.cells [.own 3 []]]) ++ [ar.cells [.d (oo H.length (H ++ [ar.cells [.own 3 []]]).length)]]).set (H ++ [ar.cells [.own 3 []]]).length ar.hole) [0, 3, 4] (K33 p0 H.length H []) (by simp [sp]) (by simp [sp]) (by kernel_rfl) (by kernel_rfl) fun v => ?_
 have eH : ((H ++ [ar.cells [.own 3 []]]) ++ [ar.cells [.d (oo H.length (H ++ [ar.cells [.own 3 []]]).length)]]).set (H ++ [ar.cells [.own 3 []]]).length ar.hole = ((H ++ [ar.hole, ar.hole]).set H.length (ar.cells [.own 3 []])) := by simp
 rw [eH]
 have hoi : (H ++ [ar.hole, ar.hole])[H.length]? = some ar.hole := by simp
 have hcall := sB (di := (H ++ [ar.cells [.own 3 []]]).length) hoi fuel i (IntKind.wrap .i64 (lv - 1)) [] [] v r1 rfl hn
 refine SWG.seq gcK <| SWG.l8 (by kernel_rfl) gcK ?_
 refine OG.hav (H := ((H ++ [ar.hole, ar.hole]).set H.length (ar.cells [.own 3 []]))) (s := (v, [])) 1 255 18 (K15 H.length H.length H [(12, .d (.ptr i 0)), (15, vI (IntKind.wrap .i64 (lv - 1)))]) (OG.step gcK (i0 := 8) (is := []) (by kernel_rfl) ⟨aZ.vX (o' := some 16) hcall (by kernel_rfl) (mW (by simp [K15, K19, K33, ib, vI]) rfl) fun s3 H3 r3 hP => ?_, trivial⟩) fun c112 => ?_
 ·obtain ⟨us3, hlen3, hs3, rfl, rfl⟩ := hP
  obtain ⟨v3, k3⟩ := s3
  cases hs3
  refine OG.kp 18 ((H ++ [ar.hole, ar.hole]).set H.length (ar.cells [.own 3 (aQ r1.2 us3)])) [3] [(3, .d (.ptr H.length 0))] (by kernel_rfl) <| OG.fin gcK (by kernel_rfl) <| dj <| SWG.seq gcK <| SWG.fD <| OGt.step gcK (by kernel_rfl) <|
   aZ.nL (o' := some 17) (by kernel_rfl) <| OGt.kp 18 ((H ++ [ar.hole, ar.hole]).set H.length (ar.cells [.own 3 (aQ r1.2 us3)])) [17] [(17, .d (.raw v3))] (by kernel_rfl) <|
   OGt.Cx (t := 17) (by kernel_rfl) hlen3 (List.getElem?_set_self (by simp)) (mW (by simp [K15, K19, K33, ib]) rfl) <|
   OGt.kp 18 (((H ++ [ar.hole, ar.hole]).set H.length (ar.cells [.own 3 (aQ r1.2 us3)])).set H.length ar.hole) [17] [(17, .d (.list 3 (List.map aI r1.2)))] (by kernel_rfl) ?_
  have eE : (((H ++ [ar.hole, ar.hole]).set H.length (ar.cells [.own 3 (aQ r1.2 us3)])).set H.length ar.hole) = H ++ [ar.hole, ar.hole] := by simp
  rw [eE]
  refine OGt.F gcK (OWk.G 1 [(2, .d (.list 3 (List.map aI r1.2)))] <| OWk.D <| OGt.fin gcK (by kernel_rfl) <| dj <| SWG.of gcK fun a w g hr => wp_ret ⟨_, g, ?_, hr, Fr.refl _ _ _⟩)
  exact aA.ret [] (by kernel_rfl) rfl
 refine OG.hav (H := ((H ++ [ar.hole, ar.hole]).set H.length (ar.cells [.own 3 []]))) (s := (v, [])) 2 254 18 (K19 H.length H [(12, .d (.ptr i 0)), (15, vI (IntKind.wrap .i64 (lv - 1)))]) (OG.step gcK (i0 := 0) (is := []) (by kernel_rfl) ⟨aZ.uM (o' := some 8) (by kernel_rfl) <| OG.kp 18 ((H ++ [ar.hole, ar.hole]).set H.length (ar.cells [.own 3 []])) [3, 8, 12, 15] (K15 H.length H.length H [(12, .d (.ptr i 0)), (15, vI (IntKind.wrap .i64 (lv - 1)))]) (by kernel_rfl) <| OG.at_ c112, trivial⟩) fun c012 => ?_
 refine OG.hav (H := ((H ++ [ar.hole, ar.hole]).set H.length (ar.cells [.own 3 []]))) (s := (v, [])) 2 239 18 (K15 H.length H.length H [(11, .d (.ptr p0 4)), (15, vI (IntKind.wrap .i64 (lv - 1)))]) (OG.step gcK (i0 := 4) (is := []) (by kernel_rfl) ⟨aZ.W gcK (OWk.O (d := some 12) (s := .d (cP.enc (some i))) (K15 H.length H.length H [(12, .d (.ptr i 0)), (15, vI (IntKind.wrap .i64 (lv - 1)))]) (BAt.ldH (c := cP.cell) hroot (by kernel_rfl)) <| OWk.D <| OG.at_ c112), trivial⟩) fun c102 => ?_
 refine OG.hav (H := ((H ++ [ar.hole, ar.hole]).set H.length (ar.cells [.own 3 []]))) (s := (v, [])) 3 238 18 (K19 H.length H [(11, .d (.ptr p0 4)), (15, vI (IntKind.wrap .i64 (lv - 1)))]) (OG.step gcK (i0 := 0) (is := [4]) (by kernel_rfl) ⟨aZ.uM (o' := some 8) (by kernel_rfl) <| OG.kp 18 ((H ++ [ar.hole, ar.hole]).set H.length (ar.cells [.own 3 []])) [3, 8, 11, 15] (K15 H.length H.length H [(11, .d (.ptr p0 4)), (15, vI (IntKind.wrap .i64 (lv - 1)))]) (by kernel_rfl) <| OG.at_ c102, aZ.W gcK (OWk.O (d := some 12) (s := .d (cP.enc (some i))) (K19 H.length H [(12, .d (.ptr i 0)), (15, vI (IntKind.wrap .i64 (lv - 1)))]) (BAt.ldH (c := cP.cell) hroot (by kernel_rfl)) <| OWk.D <| OG.at_ c012), trivial⟩) fun c002 => ?_
 refine OG.hav (H := ((H ++ [ar.hole, ar.hole]).set H.length (ar.cells [.own 3 []]))) (s := (v, [])) 2 127 18 (K15 H.length H.length H [(12, .d (.ptr i 0)), (14, vI lv)]) (OG.step gcK (i0 := 7) (is := []) (by kernel_rfl) ⟨aZ.W gcK (OWk.G 1 (K15 H.length H.length H [(12, .d (.ptr i 0)), (15, vI (IntKind.wrap .i64 (lv - 1)))]) <| OWk.D <| OG.at_ c112), trivial⟩) fun c111 => ?_
 refine OG.hav (H := ((H ++ [ar.hole, ar.hole]).set H.length (ar.cells [.own 3 []]))) (s := (v, [])) 3 126 18 (K19 H.length H [(12, .d (.ptr i 0)), (14, vI lv)]) (OG.step gcK (i0 := 0) (is := [7]) (by kernel_rfl) ⟨aZ.uM (o' := some 8) (by kernel_rfl) <| OG.kp 18 ((H ++ [ar.hole, ar.hole]).set H.length (ar.cells [.own 3 []])) [3, 8, 12, 14] (K15 H.length H.length H [(12, .d (.ptr i 0)), (14, vI lv)]) (by kernel_rfl) <| OG.at_ c111, aZ.W gcK (OWk.G 1 (K19 H.length H [(12, .d (.ptr i 0)), (15, vI (IntKind.wrap .i64 (lv - 1)))]) <| OWk.D <| OG.at_ c012), trivial⟩) fun c011 => ?_
 refine OG.hav (H := ((H ++ [ar.hole, ar.hole]).set H.length (ar.cells [.own 3 []]))) (s := (v, [])) 3 111 18 (K15 H.length H.length H [(11, .d (.ptr p0 4)), (14, vI lv)]) (OG.step gcK (i0 := 4) (is := [7]) (by kernel_rfl) ⟨aZ.W gcK (OWk.O (d := some 12) (s := .d (cP.enc (some i))) (K15 H.length H.length H [(12, .d (.ptr i 0)), (14, vI lv)]) (BAt.ldH (c := cP.cell) hroot (by kernel_rfl)) <| OWk.D <| OG.at_ c111), aZ.W gcK (OWk.G 1 (K15 H.length H.length H [(11, .d (.ptr p0 4)), (15, vI (IntKind.wrap .i64 (lv - 1)))]) <| OWk.D <| OG.at_ c102), trivial⟩) fun c101 => ?_
 refine OG.hav (H := ((H ++ [ar.hole, ar.hole]).set H.length (ar.cells [.own 3 []]))) (s := (v, [])) 4 110 18 (K19 H.length H [(11, .d (.ptr p0 4)), (14, vI lv)]) (OG.step gcK (i0 := 0) (is := [4, 7]) (by kernel_rfl) ⟨aZ.uM (o' := some 8) (by kernel_rfl) <| OG.kp 18 ((H ++ [ar.hole, ar.hole]).set H.length (ar.cells [.own 3 []])) [3, 8, 11, 14] (K15 H.length H.length H [(11, .d (.ptr p0 4)), (14, vI lv)]) (by kernel_rfl) <| OG.at_ c101, aZ.W gcK (OWk.O (d := some 12) (s := .d (cP.enc (some i))) (K19 H.length H [(12, .d (.ptr i 0)), (14, vI lv)]) (BAt.ldH (c := cP.cell) hroot (by kernel_rfl)) <| OWk.D <| OG.at_ c011), aZ.W gcK (OWk.G 1 (K19 H.length H [(11, .d (.ptr p0 4)), (15, vI (IntKind.wrap .i64 (lv - 1)))]) <| OWk.D <| OG.at_ c002), trivial⟩) fun c001 => ?_
 refine OG.hav (H := ((H ++ [ar.hole, ar.hole]).set H.length (ar.cells [.own 3 []]))) (s := (v, [])) 3 63 18 (K15 H.length H.length H [(12, .d (.ptr i 0)), (13, .d (.ptr p0 0))]) (OG.step gcK (i0 := 6) (is := []) (by kernel_rfl) ⟨aZ.W gcK (OWk.CR (ls := []) (some 14) (K15 H.length H.length H [(12, .d (.ptr i 0)), (14, vI lv)]) (cW hlv) <| OWk.D <| OG.at_ c111), trivial⟩) fun c110 => ?_
 refine OG.hav (H := ((H ++ [ar.hole, ar.hole]).set H.length (ar.cells [.own 3 []]))) (s := (v, [])) 4 62 18 (K19 H.length H [(12, .d (.ptr i 0)), (13, .d (.ptr p0 0))]) (OG.step gcK (i0 := 0) (is := [6]) (by kernel_rfl) ⟨aZ.uM (o' := some 8) (by kernel_rfl) <| OG.kp 18 ((H ++ [ar.hole, ar.hole]).set H.length (ar.cells [.own 3 []])) [3, 8, 12, 13] (K15 H.length H.length H [(12, .d (.ptr i 0)), (13, .d (.ptr p0 0))]) (by kernel_rfl) <| OG.at_ c110, aZ.W gcK (OWk.CR (ls := []) (some 14) (K19 H.length H [(12, .d (.ptr i 0)), (14, vI lv)]) (cW hlv) <| OWk.D <| OG.at_ c011), trivial⟩) fun c010 => ?_
 refine OG.hav (H := ((H ++ [ar.hole, ar.hole]).set H.length (ar.cells [.own 3 []]))) (s := (v, [])) 4 47 18 (K15 H.length H.length H [(11, .d (.ptr p0 4)), (13, .d (.ptr p0 0))]) (OG.step gcK (i0 := 4) (is := [6]) (by kernel_rfl) ⟨aZ.W gcK (OWk.O (d := some 12) (s := .d (cP.enc (some i))) (K15 H.length H.length H [(12, .d (.ptr i 0)), (13, .d (.ptr p0 0))]) (BAt.ldH (c := cP.cell) hroot (by kernel_rfl)) <| OWk.D <| OG.at_ c110), aZ.W gcK (OWk.CR (ls := []) (some 14) (K15 H.length H.length H [(11, .d (.ptr p0 4)), (14, vI lv)]) (cW hlv) <| OWk.D <| OG.at_ c101), trivial⟩) fun c100 => ?_
 refine OG.hav (H := ((H ++ [ar.hole, ar.hole]).set H.length (ar.cells [.own 3 []]))) (s := (v, [])) 5 46 18 (K19 H.length H [(11, .d (.ptr p0 4)), (13, .d (.ptr p0 0))]) (OG.step gcK (i0 := 0) (is := [4, 6]) (by kernel_rfl) ⟨aZ.uM (o' := some 8) (by kernel_rfl) <| OG.kp 18 ((H ++ [ar.hole, ar.hole]).set H.length (ar.cells [.own 3 []])) [3, 8, 11, 13] (K15 H.length H.length H [(11, .d (.ptr p0 4)), (13, .d (.ptr p0 0))]) (by kernel_rfl) <| OG.at_ c100, aZ.W gcK (OWk.O (d := some 12) (s := .d (cP.enc (some i))) (K19 H.length H [(12, .d (.ptr i 0)), (13, .d (.ptr p0 0))]) (BAt.ldH (c := cP.cell) hroot (by kernel_rfl)) <| OWk.D <| OG.at_ c010), aZ.W gcK (OWk.CR (ls := []) (some 14) (K19 H.length H [(11, .d (.ptr p0 4)), (14, vI lv)]) (cW hlv) <| OWk.D <| OG.at_ c001), trivial⟩) fun c000 => ?_
 exact OG.b 1 (K33 p0 H.length H [(9, .d (.ptr p0 0))]) <| OG.b 2 (K33 p0 H.length H [(10, .d (.ptr p0 0))]) <| OG.b 3 (K33 p0 H.length H [(11, .d (.ptr p0 4))]) <| OG.b 5 (K19 H.length H [(11, .d (.ptr p0 4)), (13, .d (.ptr p0 0))]) <| OG.at_ c000
def cK (fuel : Nat) (p0 : (List Value)) (p1 : (List Value)) (y1 : Int) : Option ((Int) ⊕ ((Unit) ⊕ ((Int)))) :=
 aX (fun (j2 : Bool) =>
  bif j2 then
   (idx p0 y1).bind fun x4 =>
   (idx p1 y1).bind fun x5 =>
   (eY fuel x4 x5).bind fun r6 =>
   bif (r6 != 0) then
    some (.inr (.inr r6))
   else
    some (.inl (IntKind.wrap .i64 (y1 + 1)))
  else
   some (.inr (.inl ()))) fun jp3 =>
 bif (decide (y1 < (p0.length : Int))) then
  jp3 (decide (y1 < (p1.length : Int)))
 else
  jp3 false
def dx (fuel : Nat) (p0 : (List Value)) (p1 : (List Value)) : Option (Int) :=
 (iter (cK fuel p0 p1) fuel 0).bind (Sum.elim (fun v8 =>
  (h9 fuel (p0.length : Int) (p1.length : Int)).bind fun r9 =>
  some r9) (fun r10 =>
  some r10))
def AM (x0 : (((List Node)) × Hp)) : SV := .d (.list 3 (List.map aI x0.1))
def CW (x0 : Tree) : SV := .d (.agg [.list 1 (List.map (D.int .i64) x0.S.aq), .list 1 (List.map D.bool x0.S.Down), .int .i64 x0.S.Dup])
def CV (x0 : Tree × Int × Int) : SV := vB ((x0.2.2 != 0) || (x0.2.1 != (-1)))
def CU (x0 : Tree × Int × Int) : SV := .d (.list 3 (List.map ab x0.1.All))
def nt (x0 : Tree) : SV := .d (.list 3 (List.map ab x0.All))
def CT (x0 : (List Entry)) (x1 : (List Entry)) : SV := vB ((x0.length : Int) != (x1.length : Int))
def CS (x0 : Entry) (x1 : Entry) : SV := vB (x0.Number != x1.Number)
def K41 := fun a0 a1 a2 (t : SL) => ((0, Z13 a0) :: (1, Z13 a1) :: (5, vI a2) :: t : SL)
theorem lH {fuel : Nat} {p0 : (List Value)} {p1 : (List Value)} {r : Int} (h : dx fuel p0 p1 = some r) : PC Try.prog 68 [.d (.list 3 (List.map ag p0)), .d (.list 3 (List.map ag p1))] (vI r) := by
 refine PC.br Try.func68 rfl fun H => ?_
 unfold dx at h
 refine SW.kp 36 H [0, 1] [(0, Z13 p0), (1, Z13 p1)] (by kernel_rfl) <| SW.R 1 [(0, Z13 p0), (1, Z13 p1)] <| SW.seq <| SW.R 1 [(0, Z13 p0), (1, Z13 p1), (5, vI 0)] <| SW.block ?_
 obtain ⟨z7, hit, h⟩ := aa h
 refine SW.it 36 H [0, 1, 5] (fun y1 => (K41 p0 p1 y1 [])) (fun b e s => ((∃ v8, b = (.inl v8) ∧ (e = .exit 0 ∧ s = (sp 36 [(0, Z13 p0), (1, Z13 p1)] H))) ∨ (∃ r10, b = (.inr r10) ∧ (e = .ret ∧ aA Try.prog Try.f68.results.toList H (vI r10) .ret s)))) hit (by kernel_rfl) (fun y1 o h => ?_) ?_
 ·unfold cK at h
  refine SW.seq ?_
  obtain ⟨jp3, hjjp3, h⟩ := bt h
  refine SW.jn 36 H [0, 1, 5, 16] (fun (j2 : Bool) => (K41 p0 p1 y1 [(16, vB j2)])) (fun v => jp3 v = some o) (fun j2 h => ?_) ?_
  ·rw [hjjp3] at h
   refine SW.B j2 (fun hc => ?_) (fun hc => ?_)
   ·replace h := an hc h
    refine SW.skip <| ad <| SW.seq <| SW.block <| SW.seq <| SW.cw (by kernel_rfl) (by kernel_rfl) <| OQk.G 2 (K41 p0 p1 y1 [(19, Z13 p0), (20, vI y1)]) ?_
    obtain ⟨x4, hx, h⟩ := aa h
    refine OQk.on 36 H (d := some 21) (s := aO none (Go.Sh.D.cells (ag x4))) [0, 1, 5, 21] (K41 p0 p1 y1 [(21, .d (.aR [.int .i64 x4.Kind, .int .i64 x4.N, .str x4.S]))]) (BAt.index (n := 3) hx (by kernel_rfl)) (by kernel_rfl) <| OQk.G 3 (K41 p0 p1 y1 [(22, Z58 x4), (23, Z13 p1), (24, vI y1)]) ?_
    obtain ⟨x5, hx, h⟩ := aa h
    refine OQk.on 36 H (d := some 25) (s := aO none (Go.Sh.D.cells (ag x5))) [0, 1, 5, 22, 25] (K41 p0 p1 y1 [(22, Z58 x4), (25, .d (.aR [.int .i64 x5.Kind, .int .i64 x5.N, .str x5.S]))]) (BAt.index (n := 3) hx (by kernel_rfl)) (by kernel_rfl) <| OQk.G 1 (K41 p0 p1 y1 [(22, Z58 x4), (26, Z58 x5)]) ?_
    obtain ⟨r6, hr, h⟩ := aa h
    refine OQk.cl 36 H (d := some 27) (ls := []) [0, 1, 5, 27] (K41 p0 p1 y1 [(27, vI r6)]) (j5 hr) (by kernel_rfl) (by kernel_rfl) (by kernel_rfl) <| OQk.G 1 (K41 p0 p1 y1 [(6, vI r6)]) <| OQk.done (by kernel_rfl) <| ad <| SW.R 1 (K41 p0 p1 y1 [(6, vI r6), (29, vB (r6 != 0))]) ?_
    refine SW.B (r6 != 0) (fun hc => ?_) (fun hc => ?_)
    ·replace h := an hc h
     refine SW.R 1 [(4, vI r6)] <| SW.ret <| ax <| af ?_
     cases h
     refine af ?_
     exact ⟨_, rfl, .inr (⟨r6, rfl, rfl, aA.ret [] (by kernel_rfl) rfl⟩)⟩
    ·replace h := ao hc h
     refine SW.skip <| aH <| ad <| SW.au <| OWk.G 3 [(0, Z13 p0), (1, Z13 p1), (5, Z18 y1)] <| OWk.D ?_
     cases h
     exact ⟨(IntKind.wrap .i64 (y1 + 1)), rfl, by kernel_rfl⟩
   ·replace h := ao hc h
    refine SW.K [(0, Z13 p0), (1, Z13 p1)] <| SW.exit <| aJ ?_
    cases h
    refine aJ ?_
    exact ⟨_, rfl, .inl ⟨(), rfl, rfl, rfl⟩⟩
  ·refine SW.au <| OWk.G 2 (K41 p0 p1 y1 [(7, vI y1), (8, Z13 p0)]) <| OWk.O (d := some 9) (K41 p0 p1 y1 [(7, vI y1), (9, vI (p0.length : Int))]) (BAt.len (enc := ag) (xs := p0) (by kernel_rfl)) <| OWk.G 2 (K41 p0 p1 y1 [(11, Z17 y1 p0)]) ?_
   refine OWk.case (decide (y1 < (p0.length : Int))) (fun b => (sp 36 (K41 p0 p1 y1 [(11, vB b)]) H)) (by kernel_rfl) (fun hc => ?_) (fun hc => ?_)
   ·replace h := an hc h
    refine OWk.G 2 (K41 p0 p1 y1 [(11, vB true), (12, vI y1), (13, Z13 p1)]) <| OWk.O (d := some 14) (K41 p0 p1 y1 [(11, vB true), (12, vI y1), (14, vI (p1.length : Int))]) (BAt.len (enc := ag) (xs := p1) (by kernel_rfl)) <| OWk.G 2 (K41 p0 p1 y1 [(16, Z17 y1 p1)]) <| OWk.D ?_
    exact ⟨(decide (y1 < (p1.length : Int))), [], by kernel_rfl, h⟩
   ·replace h := ao hc h
    refine OWk.G 5 (K41 p0 p1 y1 [(16, vB false)]) <| OWk.D ?_
    exact ⟨false, [], by kernel_rfl, h⟩
 ·rintro _ _ (⟨v8, rfl, rfl, rfl⟩ | ⟨r10, rfl, rfl, hE⟩)
  ·replace h := dO h
   refine aT <| ad <| SW.S <| OWk.G 1 [(1, Z13 p1), (31, Z13 p0)] <| OWk.O (d := some 32) [(1, Z13 p1), (32, vI (p0.length : Int))] (BAt.len (enc := ag) (xs := p0) (by kernel_rfl)) <| OWk.G 1 [(32, vI (p0.length : Int)), (33, Z13 p1)] <| OWk.O (d := some 34) [(32, vI (p0.length : Int)), (34, vI (p1.length : Int))] (BAt.len (enc := ag) (xs := p1) (by kernel_rfl)) ?_
   obtain ⟨r9, hr, h⟩ := aa h
   refine OWk.C0 (some 35) [(35, vI r9)] (jY hr) <| OWk.G 1 [(4, vI r9)] <| OWk.E <| SW.ret ?_
   cases h
   exact aA.ret [] (by kernel_rfl) rfl
  ·replace h := dN h
   refine ax <| af ?_
   cases h
   exact hE
def jZ (fuel : Nat) (p0 : (List Value)) (p1 : (List Value)) : Option (Bool) :=
 (dx fuel p0 p1).bind fun r1 =>
 some (r1 == 0)
theorem sQ {fuel : Nat} {p0 : (List Value)} {p1 : (List Value)} {r : Bool} (h : jZ fuel p0 p1 = some r) : PC Try.prog 57 [.d (.list 3 (List.map ag p0)), .d (.list 3 (List.map ag p1))] (vB r) := by
 refine PC.br Try.func57 rfl fun H => ?_
 unfold jZ at h
 refine SW.kp 9 H [0, 1] [(0, Z13 p0), (1, Z13 p1)] (by kernel_rfl) <| SW.R 1 [(0, Z13 p0), (1, Z13 p1)] <| SW.S <| OWk.G 2 [(5, Z13 p0), (6, Z13 p1)] ?_
 obtain ⟨r1, hr, h⟩ := aa h
 refine OWk.C0 (some 7) [(7, vI r1)] (lH hr) <| OWk.G 2 [(4, vB (r1 == 0))] <| OWk.E <| SW.ret ?_
 cases h
 exact aA.ret [] (by kernel_rfl) rfl
def cZ (fuel : Nat) (p0 : (List Entry)) (p1 : (List Entry)) (y1 : Int) : Option ((Int) ⊕ ((Unit) ⊕ ((Bool)))) :=
 bif (decide (y1 < (p0.length : Int))) then
  (idx p0 y1).bind fun x2 =>
  (idx p1 y1).bind fun x3 =>
  bif (x2.Key != x3.Key) then
   some (.inr (.inr false))
  else
   (idx p0 y1).bind fun x4 =>
   (idx p1 y1).bind fun x5 =>
   bif (x4.Number != x5.Number) then
    some (.inr (.inr false))
   else
    (idx p0 y1).bind fun x6 =>
    (idx p1 y1).bind fun x7 =>
    (jZ fuel x6.Row x7.Row).bind fun r8 =>
    bif (!r8) then
     some (.inr (.inr false))
    else
     some (.inl (IntKind.wrap .i64 (y1 + 1)))
 else
  some (.inr (.inl ()))
def dD (fuel : Nat) (p0 : (List Entry)) (p1 : (List Entry)) : Option (Bool) :=
 bif ((p0.length : Int) != (p1.length : Int)) then
  some false
 else
  (iter (cZ fuel p0 p1) fuel 0).bind (Sum.elim (fun v10 =>
   some true) (fun r11 =>
   some r11))
def K29 := fun a0 a1 a2 (t : SL) => ((0, Z80 a0) :: (1, Z80 a1) :: (5, vI a2) :: t : SL)
def K104 := fun a0 a1 (t : SL) => ((0, Z80 a0) :: (1, Z80 a1) :: t : SL)
theorem jd {fuel : Nat} {p0 : (List Entry)} {p1 : (List Entry)} {r : Bool} (h : dD fuel p0 p1 = some r) : PC Try.prog 33 [.d (.list 3 (List.map ab p0)), .d (.list 3 (List.map ab p1))] (vB r) := by
 refine PC.br Try.func33 rfl fun H => ?_
 unfold dD at h
 refine SW.kp 55 H [0, 1] (K104 p0 p1 []) (by kernel_rfl) <| SW.R 1 (K104 p0 p1 []) <| SW.seq <| SW.S <| OWk.G 1 (K104 p0 p1 [(6, Z80 p0)]) <| OWk.O (d := some 7) (K104 p0 p1 [(7, vI (p0.length : Int))]) (BAt.len (enc := ab) (xs := p0) (by kernel_rfl)) <| OWk.G 1 (K104 p0 p1 [(7, vI (p0.length : Int)), (8, Z80 p1)]) <| OWk.O (d := some 9) (K104 p0 p1 [(7, vI (p0.length : Int)), (9, vI (p1.length : Int))]) (BAt.len (enc := ab) (xs := p1) (by kernel_rfl)) <| OWk.G 1 (K104 p0 p1 [(10, CT p0 p1)]) <| OWk.E ?_
 refine SW.B ((p0.length : Int) != (p1.length : Int)) (fun hc => ?_) (fun hc => ?_)
 ·replace h := an hc h
  refine SW.R 1 [(4, vB false)] <| SW.ret <| af ?_
  cases h
  exact aA.ret [] (by kernel_rfl) rfl
 ·replace h := ao hc h
  refine SW.skip <| ad <| SW.seq <| SW.R 1 (K104 p0 p1 [(5, vI 0)]) <| SW.block ?_
  obtain ⟨z9, hit, h⟩ := aa h
  refine SW.it 55 H [0, 1, 5] (fun y1 => (K29 p0 p1 y1 [])) (fun b e s => ((∃ v10, b = (.inl v10) ∧ (e = .exit 0 ∧ s = (sp 55 [] H))) ∨ (∃ r11, b = (.inr r11) ∧ (e = .ret ∧ aA Try.prog Try.f33.results.toList H (vB r11) .ret s)))) hit (by kernel_rfl) (fun y1 o h => ?_) ?_
  ·unfold cZ at h
   refine SW.seq <| SW.S <| OWk.G 2 (K29 p0 p1 y1 [(11, vI y1), (12, Z80 p0)]) <| OWk.O (d := some 13) (K29 p0 p1 y1 [(11, vI y1), (13, vI (p0.length : Int))]) (BAt.len (enc := ab) (xs := p0) (by kernel_rfl)) <| OWk.G 1 (K29 p0 p1 y1 [(14, Ct y1 p0)]) <| OWk.E ?_
   refine SW.B (decide (y1 < (p0.length : Int))) (fun hc => ?_) (fun hc => ?_)
   ·replace h := an hc h
    refine SW.skip <| ad <| SW.seq <| SW.block <| SW.seq <| SW.cw (by kernel_rfl) (by kernel_rfl) <| OQk.G 2 (K29 p0 p1 y1 [(17, Z80 p0), (18, vI y1)]) ?_
    obtain ⟨x2, hx, h⟩ := aa h
    refine OQk.on 55 H (d := some 19) (s := aO none (Go.Sh.D.cells (ab x2))) [0, 1, 5, 19] (K29 p0 p1 y1 [(19, .d (.aR [.list 3 (List.map ag x2.Row), .int .i64 x2.Key, .int .i64 x2.Number]))]) (BAt.index (n := 3) hx (by kernel_rfl)) (by kernel_rfl) <| OQk.G 4 (K29 p0 p1 y1 [(21, vI x2.Key), (22, Z80 p1), (23, vI y1)]) ?_
    obtain ⟨x3, hx, h⟩ := aa h
    refine OQk.on 55 H (d := some 24) (s := aO none (Go.Sh.D.cells (ab x3))) [0, 1, 5, 21, 24] (K29 p0 p1 y1 [(21, vI x2.Key), (24, .d (.aR [.list 3 (List.map ag x3.Row), .int .i64 x3.Key, .int .i64 x3.Number]))]) (BAt.index (n := 3) hx (by kernel_rfl)) (by kernel_rfl) <| OQk.G 4 (K29 p0 p1 y1 [(28, vB (x2.Key != x3.Key))]) ?_
    refine OQk.case (x2.Key != x3.Key) (fun b => (sp 55 (K29 p0 p1 y1 [(28, vB b)]) H)) (by kernel_rfl) (fun hc => ?_) (fun hc => ?_)
    ·replace h := an hc h
     refine OQk.G 26 (K29 p0 p1 y1 [(54, vB true)]) <| OQk.done (by kernel_rfl) <| ad <| SW.gH (by kernel_rfl) <| SW.R 1 [(4, vB false)] <| SW.ret <| ax <| af ?_
     cases h
     refine af ?_
     exact ⟨_, rfl, .inr (⟨false, rfl, rfl, aA.ret [] (by kernel_rfl) rfl⟩)⟩
    ·replace h := ao hc h
     refine OQk.G 2 (K29 p0 p1 y1 [(28, vB false), (29, Z80 p0), (30, vI y1)]) ?_
     obtain ⟨x4, hx, h⟩ := aa h
     refine OQk.on 55 H (d := some 31) (s := aO none (Go.Sh.D.cells (ab x4))) [0, 1, 5, 28, 31] (K29 p0 p1 y1 [(28, vB false), (31, .d (.aR [.list 3 (List.map ag x4.Row), .int .i64 x4.Key, .int .i64 x4.Number]))]) (BAt.index (n := 3) hx (by kernel_rfl)) (by kernel_rfl) <| OQk.G 4 (K29 p0 p1 y1 [(28, vB false), (33, vI x4.Number), (34, Z80 p1), (35, vI y1)]) ?_
     obtain ⟨x5, hx, h⟩ := aa h
     refine OQk.on 55 H (d := some 36) (s := aO none (Go.Sh.D.cells (ab x5))) [0, 1, 5, 28, 33, 36] (K29 p0 p1 y1 [(28, vB false), (33, vI x4.Number), (36, .d (.aR [.list 3 (List.map ag x5.Row), .int .i64 x5.Key, .int .i64 x5.Number]))]) (BAt.index (n := 3) hx (by kernel_rfl)) (by kernel_rfl) <| OQk.G 5 (K29 p0 p1 y1 [(41, CS x4 x5)]) ?_
     refine OQk.case (x4.Number != x5.Number) (fun b => (sp 55 (K29 p0 p1 y1 [(41, vB b)]) H)) (by kernel_rfl) (fun hc => ?_) (fun hc => ?_)
     ·replace h := an hc h
      refine OQk.G 13 (K29 p0 p1 y1 [(54, vB true)]) <| OQk.done (by kernel_rfl) <| ad <| SW.gH (by kernel_rfl) <| SW.R 1 [(4, vB false)] <| SW.ret <| ax <| af ?_
      cases h
      refine af ?_
      exact ⟨_, rfl, .inr (⟨false, rfl, rfl, aA.ret [] (by kernel_rfl) rfl⟩)⟩
     ·replace h := ao hc h
      refine OQk.G 2 (K29 p0 p1 y1 [(41, vB false), (42, Z80 p0), (43, vI y1)]) ?_
      obtain ⟨x6, hx, h⟩ := aa h
      refine OQk.on 55 H (d := some 44) (s := aO none (Go.Sh.D.cells (ab x6))) [0, 1, 5, 41, 44] (K29 p0 p1 y1 [(41, vB false), (44, .d (.aR [.list 3 (List.map ag x6.Row), .int .i64 x6.Key, .int .i64 x6.Number]))]) (BAt.index (n := 3) hx (by kernel_rfl)) (by kernel_rfl) <| OQk.G 4 (K29 p0 p1 y1 [(41, vB false), (46, Z84 x6), (47, Z80 p1), (48, vI y1)]) ?_
      obtain ⟨x7, hx, h⟩ := aa h
      refine OQk.on 55 H (d := some 49) (s := aO none (Go.Sh.D.cells (ab x7))) [0, 1, 5, 41, 46, 49] (K29 p0 p1 y1 [(41, vB false), (46, Z84 x6), (49, .d (.aR [.list 3 (List.map ag x7.Row), .int .i64 x7.Key, .int .i64 x7.Number]))]) (BAt.index (n := 3) hx (by kernel_rfl)) (by kernel_rfl) <| OQk.G 2 (K29 p0 p1 y1 [(41, vB false), (46, Z84 x6), (51, Z84 x7)]) ?_
      obtain ⟨r8, hr, h⟩ := aa h
      refine OQk.cl 55 H (d := some 52) (ls := []) [0, 1, 5, 41, 52] (K29 p0 p1 y1 [(41, vB false), (52, vB r8)]) (sQ hr) (by kernel_rfl) (by kernel_rfl) (by kernel_rfl) <| OQk.G 2 (K29 p0 p1 y1 [(54, vB (!r8))]) <| OQk.done (by kernel_rfl) <| ad ?_
      refine SW.B (!r8) (fun hc => ?_) (fun hc => ?_)
      ·replace h := an hc h
       refine SW.R 1 [(4, vB false)] <| SW.ret <| ax <| af ?_
       cases h
       refine af ?_
       exact ⟨_, rfl, .inr (⟨false, rfl, rfl, aA.ret [] (by kernel_rfl) rfl⟩)⟩
      ·replace h := ao hc h
       refine SW.skip <| aH <| ad <| SW.au <| OWk.G 3 (K104 p0 p1 [(5, Z18 y1)]) <| OWk.D ?_
       cases h
       exact ⟨(IntKind.wrap .i64 (y1 + 1)), rfl, by kernel_rfl⟩
   ·replace h := ao hc h
    refine SW.K [] <| SW.exit <| aJ ?_
    cases h
    refine aJ ?_
    exact ⟨_, rfl, .inl ⟨(), rfl, rfl, rfl⟩⟩
  ·rintro _ _ (⟨v10, rfl, rfl, rfl⟩ | ⟨r11, rfl, rfl, hE⟩)
   ·replace h := dO h
    refine aT <| ad <| SW.R 1 [(4, vB true)] <| SW.ret ?_
    cases h
    exact aA.ret [] (by kernel_rfl) rfl
   ·replace h := dN h
    refine ax <| af ?_
    cases h
    exact hE
def fx (fuel : Nat) (p0 : Nat) (H : Hp) : Option (Int) :=
 (bg (cI .i64).cell H p0 6).bind fun x1 =>
 some x1
def CQ (x0 : Int) (x1 : Node) : SV := vB (x0 != (IntKind.wrap .i64 (x1.Level + 1)))
theorem gJ {fuel : Nat} {p0 : Nat} {H : Hp} {r : Int} (h : fx fuel p0 H = some r) : SC Try.prog true 35 [.d (.ptr p0 0)] H (vI r) H := by
 refine SC.gL Try.func35 rfl ?_
 unfold fx at h
 refine SW.kp 9 H [0] [(0, .d (.ptr p0 0))] (by kernel_rfl) <| SW.R 1 [(0, .d (.ptr p0 0))] <| SW.seq <| SW.R 1 [(0, .d (.ptr p0 0)), (4, vB false)] <| SW.fh (by kernel_rfl) <| SW.skip <| ad <| SW.S <| OWk.G 3 [(7, .d (.ptr p0 6))] ?_
 obtain ⟨x1, hx, h⟩ := aa h
 refine OWk.O (d := some 8) (s := vI x1) [(8, vI x1)] (BAt.ldH (c := (cI .i64).cell) hx (by kernel_rfl)) <| OWk.G 1 [(2, vI x1)] <| OWk.E <| SW.ret ?_
 cases h
 exact aA.ret [] (by kernel_rfl) rfl
def gw (fuel : Nat) (p0 : Nat) (H : Hp) : Option (Int) :=
 (bg (cI .i64).cell H p0 5).bind fun x1 =>
 some x1
def CP (x0 : Int) (x1 : Tree) : SV := vB (x0 == (x1.All.length : Int))
theorem jS {fuel : Nat} {p0 : Nat} {H : Hp} {r : Int} (h : gw fuel p0 H = some r) : SC Try.prog true 36 [.d (.ptr p0 0)] H (vI r) H := by
 refine SC.gL Try.func36 rfl ?_
 unfold gw at h
 refine SW.kp 9 H [0] [(0, .d (.ptr p0 0))] (by kernel_rfl) <| SW.R 1 [(0, .d (.ptr p0 0))] <| SW.seq <| SW.R 1 [(0, .d (.ptr p0 0)), (4, vB false)] <| SW.fh (by kernel_rfl) <| SW.skip <| ad <| SW.S <| OWk.G 3 [(7, .d (.ptr p0 5))] ?_
 obtain ⟨x1, hx, h⟩ := aa h
 refine OWk.O (d := some 8) (s := vI x1) [(8, vI x1)] (BAt.ldH (c := (cI .i64).cell) hx (by kernel_rfl)) <| OWk.G 1 [(2, vI x1)] <| OWk.E <| SW.ret ?_
 cases h
 exact aA.ret [] (by kernel_rfl) rfl
def dR (fuel : Nat) (p0 : Tree) (y1 : (List Int) × Int) : Option (((List Int) × Int) ⊕ ((List Int))) :=
 bif (decide (y1.2 < (p0.All.length : Int))) then
  (idx p0.All y1.2).bind fun x2 =>
  chk (decide ((y1.1 ++ [x2.Key]).length ≤ room)) <|
  some (.inl ((y1.1 ++ [x2.Key]), (IntKind.wrap .i64 (y1.2 + 1))))
 else
  some (.inr y1.1)
def gA (fuel : Nat) (p0 : Tree) : Option ((List Int)) :=
 (iter (dR fuel p0) fuel (([] : List Int), 0)).bind fun v4 =>
 some v4
def wR (x0 : Tree) : SV := vI (x0.All.length : Int)
def ve (x0 : Tree) : SV := .d (.agg [.list 1 (List.map (D.int .i64) x0.S.aq), .list 1 (List.map D.bool x0.S.Down), .int .i64 x0.S.Dup, .int .i64 x0.Order, .list 3 (List.map ab x0.All), .int .i64 x0.jN])
def vd (x0 : (List Int) × Int) : SV := .own 1 (List.map (D.int .i64) x0.1)
def CO (x0 : (List Int) × Int) (x1 : Tree) : SV := vB (decide (x0.2 < (x1.All.length : Int)))
def AL (x0 : (List Int) × Int) (x1 : Entry) : SV := .own 1 (List.map (D.int .i64) (x0.1 ++ [x1.Key]))
def CN (x0 : (List Int) × Int) : SV := vI (IntKind.wrap .i64 (x0.2 + 1))
theorem pd {fuel : Nat} {p0 : Tree} {r : (List Int)} (h : gA fuel p0 = some r) : PC Try.prog 39 [.d (vR p0)] (.own 1 (List.map (D.int .i64) r)) := by
 refine PC.br Try.func39 rfl fun H => ?_
 unfold gA at h
 refine SW.kp 22 H [0] [(0, ve p0)] (by kernel_rfl) <| SW.R 2 [(1, kD p0), (3, Z39)] <| SW.seq <| SW.R 1 [(1, kD p0), (3, Z39), (4, vI 0)] <| SW.block ?_
 obtain ⟨v4, hit, h⟩ := aa h
 refine SW.it 22 H [1, 3, 4] (fun y1 => [(1, kD p0), (3, .own 1 (List.map (D.int .i64) y1.1)), (4, vI y1.2)]) (fun v4 e s => (e = .exit 0 ∧ s = (sp 22 [(3, .own 1 (List.map (D.int .i64) v4))] H))) hit (by kernel_rfl) (fun y1 o h => ?_) ?_
 ·unfold dR at h
  refine SW.seq <| SW.S <| OWk.G 3 [(1, kD p0), (3, vd y1), (4, vI y1.2), (5, vI y1.2), (7, nt p0)] <| OWk.O (d := some 8) [(1, kD p0), (3, vd y1), (4, vI y1.2), (5, vI y1.2), (8, wR p0)] (BAt.len (enc := ab) (xs := p0.All) (by kernel_rfl)) <| OWk.G 1 [(1, kD p0), (3, vd y1), (4, vI y1.2), (9, CO y1 p0)] <| OWk.E ?_
  refine SW.B (decide (y1.2 < (p0.All.length : Int))) (fun hc => ?_) (fun hc => ?_)
  ·replace h := an hc h
   refine SW.skip <| ad <| SW.seq <| SW.block <| SW.au <| OWk.sg 22 H [12] [1, 4, 12, 14, 15] 4 [(1, kD p0), (4, vI y1.2), (12, vd y1), (14, nt p0), (15, vI y1.2)] (by kernel_rfl) ?_
   obtain ⟨x2, hx, h⟩ := aa h
   refine OWk.O (d := some 16) (s := aO none (Go.Sh.D.cells (ab x2))) [(1, kD p0), (4, vI y1.2), (12, vd y1), (16, .d (.aR [.list 3 (List.map ag x2.Row), .int .i64 x2.Key, .int .i64 x2.Number]))] (BAt.index (n := 3) hx (by kernel_rfl)) <| OWk.sg 22 H [12] [1, 4, 12, 19] 3 [(1, kD p0), (4, vI y1.2), (12, vd y1), (19, Cf x2)] (by kernel_rfl) ?_
   obtain ⟨hk, h⟩ := bH h
   refine OWk.app 22 H (s := 12) (d := 20) (w := 1) [1, 4, 20] (zs := List.map (D.int .i64) (y1.1 ++ [x2.Key])) [(1, kD p0), (4, vI y1.2), (20, AL y1 x2)] (ys := (List.map (D.int .i64) [x2.Key])) (by kernel_rfl) (aY) (bY hk) (by kernel_rfl) <| OWk.sg 22 H [12] [1, 3, 4] 1 [(1, kD p0), (3, AL y1 x2), (4, vI y1.2)] (by kernel_rfl) <| OWk.D <| aH <| ad <| SW.au <| OWk.G 3 [(1, kD p0), (3, AL y1 x2), (4, CN y1)] <| OWk.D ?_
   cases h
   exact ⟨((y1.1 ++ [x2.Key]), (IntKind.wrap .i64 (y1.2 + 1))), rfl, by kernel_rfl⟩
  ·replace h := ao hc h
   refine SW.K [(3, vd y1)] <| SW.exit <| aJ ?_
   cases h
   refine aJ ?_
   exact ⟨_, rfl, ⟨rfl, rfl⟩⟩
 ·rintro _ _ ⟨rfl, rfl⟩
  refine aT <| ad <| SW.S <| OWk.sg 22 H [21] [2] 2 [(2, Z44 v4)] (by kernel_rfl) <| OWk.E <| SW.ret ?_
  cases h
  exact aA.ret [] (by kernel_rfl) rfl
def dv (fuel : Nat) (p0 : (List Int)) (p1 : (List Int)) (y1 : Int) : Option ((Int) ⊕ ((Unit) ⊕ ((Bool)))) :=
 bif (decide (y1 < (p0.length : Int))) then
  (idx p0 y1).bind fun x2 =>
  (idx p1 y1).bind fun x3 =>
  bif (x2 != x3) then
   some (.inr (.inr false))
  else
   some (.inl (IntKind.wrap .i64 (y1 + 1)))
 else
  some (.inr (.inl ()))
def fE (fuel : Nat) (p0 : (List Int)) (p1 : (List Int)) : Option (Bool) :=
 bif ((p0.length : Int) != (p1.length : Int)) then
  some false
 else
  (iter (dv fuel p0 p1) fuel 0).bind (Sum.elim (fun v5 =>
   some true) (fun r6 =>
   some r6))
def CM (x0 : (List Int)) (x1 : (List Int)) : SV := vB ((x0.length : Int) != (x1.length : Int))
def K63 := fun a0 a1 (t : SL) => ((0, Z32 a0) :: (1, Z32 a1) :: t : SL)
theorem oc {fuel : Nat} {p0 : (List Int)} {p1 : (List Int)} {r : Bool} (h : fE fuel p0 p1 = some r) : PC Try.prog 38 [.d (.list 1 (List.map (D.int .i64) p0)), .d (.list 1 (List.map (D.int .i64) p1))] (vB r) := by
 refine PC.br Try.func38 rfl fun H => ?_
 unfold fE at h
 refine SW.kp 26 H [0, 1] (K63 p0 p1 []) (by kernel_rfl) <| SW.R 1 (K63 p0 p1 []) <| SW.seq <| SW.S <| OWk.G 1 (K63 p0 p1 [(6, Z32 p0)]) <| OWk.O (d := some 7) (K63 p0 p1 [(7, vI (p0.length : Int))]) (BAt.len (enc := (D.int .i64)) (xs := p0) (by kernel_rfl)) <| OWk.G 1 (K63 p0 p1 [(7, vI (p0.length : Int)), (8, Z32 p1)]) <| OWk.O (d := some 9) (K63 p0 p1 [(7, vI (p0.length : Int)), (9, vI (p1.length : Int))]) (BAt.len (enc := (D.int .i64)) (xs := p1) (by kernel_rfl)) <| OWk.G 1 (K63 p0 p1 [(10, CM p0 p1)]) <| OWk.E ?_
 refine SW.B ((p0.length : Int) != (p1.length : Int)) (fun hc => ?_) (fun hc => ?_)
 ·replace h := an hc h
  refine SW.R 1 [(4, vB false)] <| SW.ret <| af ?_
  cases h
  exact aA.ret [] (by kernel_rfl) rfl
 ·replace h := ao hc h
  refine SW.skip <| ad <| SW.seq <| SW.R 1 (K63 p0 p1 [(5, vI 0)]) <| SW.block ?_
  obtain ⟨z4, hit, h⟩ := aa h
  refine SW.it 26 H [0, 1, 5] (fun y1 => (K63 p0 p1 [(5, vI y1)])) (fun b e s => ((∃ v5, b = (.inl v5) ∧ (e = .exit 0 ∧ s = (sp 26 [] H))) ∨ (∃ r6, b = (.inr r6) ∧ (e = .ret ∧ aA Try.prog Try.f38.results.toList H (vB r6) .ret s)))) hit (by kernel_rfl) (fun y1 o h => ?_) ?_
  ·unfold dv at h
   refine SW.seq <| SW.S <| OWk.G 2 (K63 p0 p1 [(5, vI y1), (11, vI y1), (12, Z32 p0)]) <| OWk.O (d := some 13) (K63 p0 p1 [(5, vI y1), (11, vI y1), (13, vI (p0.length : Int))]) (BAt.len (enc := (D.int .i64)) (xs := p0) (by kernel_rfl)) <| OWk.G 1 (K63 p0 p1 [(5, vI y1), (14, Z36 y1 p0)]) <| OWk.E ?_
   refine SW.B (decide (y1 < (p0.length : Int))) (fun hc => ?_) (fun hc => ?_)
   ·replace h := an hc h
    refine SW.skip <| ad <| SW.seq <| SW.block <| SW.seq <| SW.gz (by kernel_rfl) (by kernel_rfl) <| OBk.G 2 (K63 p0 p1 [(5, vI y1), (17, Z32 p0), (18, vI y1)]) ?_
    obtain ⟨x2, hx, h⟩ := aa h
    refine OBk.O (d := some 19) (s := aO none (Go.Sh.D.cells ((D.int .i64) x2))) (K63 p0 p1 [(5, vI y1), (19, .d (.aR [.int .i64 x2]))]) (BAt.index (n := 1) hx (by kernel_rfl)) <| OBk.G 3 (K63 p0 p1 [(5, vI y1), (20, vI x2), (21, Z32 p1), (22, vI y1)]) ?_
    obtain ⟨x3, hx, h⟩ := aa h
    refine OBk.O (d := some 23) (s := aO none (Go.Sh.D.cells ((D.int .i64) x3))) (K63 p0 p1 [(5, vI y1), (20, vI x2), (23, .d (.aR [.int .i64 x3]))]) (BAt.index (n := 1) hx (by kernel_rfl)) <| OBk.G 2 (K63 p0 p1 [(5, vI y1), (25, vB (x2 != x3))]) <| OBk.done (by kernel_rfl) <| ad ?_
    refine SW.B (x2 != x3) (fun hc => ?_) (fun hc => ?_)
    ·replace h := an hc h
     refine SW.R 1 [(4, vB false)] <| SW.ret <| ax <| af ?_
     cases h
     refine af ?_
     exact ⟨_, rfl, .inr (⟨false, rfl, rfl, aA.ret [] (by kernel_rfl) rfl⟩)⟩
    ·replace h := ao hc h
     refine SW.skip <| aH <| ad <| SW.au <| OWk.G 3 (K63 p0 p1 [(5, Z18 y1)]) <| OWk.D ?_
     cases h
     exact ⟨(IntKind.wrap .i64 (y1 + 1)), rfl, by kernel_rfl⟩
   ·replace h := ao hc h
    refine SW.K [] <| SW.exit <| aJ ?_
    cases h
    refine aJ ?_
    exact ⟨_, rfl, .inl ⟨(), rfl, rfl, rfl⟩⟩
  ·rintro _ _ (⟨v5, rfl, rfl, rfl⟩ | ⟨r6, rfl, rfl, hE⟩)
   ·replace h := dO h
    refine aT <| ad <| SW.R 1 [(4, vB true)] <| SW.ret ?_
    cases h
    exact aA.ret [] (by kernel_rfl) rfl
   ·replace h := dN h
    refine ax <| af ?_
    cases h
    exact hE
def mq (fuel : Nat) (p0 : Nat) (p1 : Tree) (H : Hp) : Option ((Bool) × Hp) :=
 (fw fuel p0 H).bind fun r1 =>
 (jW fuel p1.S p1.Order p1.jN r1.1).bind fun r2 =>
 aX (fun (j3 : Bool) =>
  bif j3 then
   some (false, r1.2)
  else
   (fx fuel p0 r1.2).bind fun r8 =>
   bif (r8 == (p1.All.length : Int)) then
    (gw fuel p0 r1.2).bind fun r24 =>
    bif (r24 == p1.jN) then
     (fU fuel p0 r1.2).bind fun r35 =>
     (dD fuel r35.1 p1.All).bind fun r46 =>
     bif r46 then
      (eX fuel p0 r35.2).bind fun r47 =>
      (gA fuel p1).bind fun r58 =>
      (fE fuel r47.1 r58).bind fun r59 =>
      some (r59, r47.2)
     else
      some (false, r35.2)
    else
     some (false, r1.2)
   else
    some (false, r1.2)) fun jp4 =>
 bif ((r2.2.2 != 0) || (r2.2.1 != (-1))) then
  jp4 true
 else
  (dD fuel r2.1.All p1.All).bind fun r5 =>
  bif (!r5) then
   jp4 true
  else
   (dC fuel p0 r1.2).bind fun r6 =>
   (idx r1.1 0).bind fun x7 =>
   jp4 (r6 != (IntKind.wrap .i64 (x7.Level + 1)))
def K13 := fun a0 a1 (t : SL) => ((0, .d (.ptr a0 0)) :: (3, kD a1) :: t : SL)
def K102 := fun a0 a1 a2 (t : SL) => ((0, .d (.ptr a0 0)) :: (3, kD a1) :: (5, AM a2) :: t : SL)
theorem uN {fuel : Nat} {p0 : Nat} {p1 : Tree} {H : Hp} {r : (Bool) × Hp} (h : mq fuel p0 p1 H = some r) : SC Try.prog false 16 [.d (.ptr p0 0), .d (vR p1)] H (vB r.1) r.2 := by
 refine SC.ga Try.func16 rfl ?_
 unfold mq at h
 refine SW.kp 74 H [0, 1] [(0, .d (.ptr p0 0)), (1, ve p1)] (by kernel_rfl) <| SW.R 1 (K13 p0 p1 []) <| SW.S <| OWk.G 1 (K13 p0 p1 [(9, .d (.ptr p0 0))]) ?_
 obtain ⟨r1, hr, h⟩ := aa h
 refine OWk.CH (some 10) (K13 p0 p1 [(10, .d (.list 3 (List.map aI r1.1)))]) (n8 hr) <| OWk.G 1 (K102 p0 p1 r1 []) <| OWk.E <| SW.S <| OWk.G 7 (K102 p0 p1 r1 [(13, CW p1), (15, vI p1.Order), (17, vI p1.jN), (18, AM r1)]) ?_
 obtain ⟨r2, hr, h⟩ := aa h
 refine OWk.C0 (some 19) (K102 p0 p1 r1 [(19, .tup [.d (.agg [.list 1 (List.map (D.int .i64) r2.1.S.aq), .list 1 (List.map D.bool r2.1.S.Down), .int .i64 r2.1.S.Dup, .int .i64 r2.1.Order, .list 3 (List.map ab r2.1.All), .int .i64 r2.1.jN]), vI r2.2.1, vI r2.2.2])]) (qI hr) <| OWk.G 8 (K102 p0 p1 r1 [(6, mG r2), (7, vI r2.2.1), (8, vI r2.2.2)]) <| OWk.E <| SW.seq ?_
 obtain ⟨jp4, hjjp4, h⟩ := bt h
 refine SW.jn 74 r1.2 [0, 3, 46] (fun (j3 : Bool) => (K13 p0 p1 [(46, vB j3)])) (fun v => jp4 v = some r) (fun j3 h => ?_) ?_
 ·rw [hjjp4] at h
  refine SW.B j3 (fun hc => ?_) (fun hc => ?_)
  ·replace h := an hc h
   refine SW.R 1 [(4, vB false)] <| SW.ret <| af ?_
   cases h
   exact aA.ret [] (by kernel_rfl) rfl
  ·replace h := ao hc h
   refine SW.skip <| ad <| SW.seq <| SW.K (K13 p0 p1 []) ?_
   refine SW.y6 28 (by kernel_rfl) (by kernel_rfl) (fun l => ?_)
   refine OL.G (d' := 26) [0, 2] (K13 p0 p1 [(47, .d (.ptr p0 0)), (49, .loc 3 4)]) ?_
   obtain ⟨r8, hr_1, h⟩ := aa h
   refine OL.hav (b := true) (H := r1.2) 23 31 74 (K13 p0 p1 [(48, vI r8), (51, wR p1)]) ?_ (fun c31 => ?_)
   ·refine OL.G (d' := 21) [5, 6] (K13 p0 p1 [(53, CP r8 p1)]) ?_
    refine OL.case (r8 == (p1.All.length : Int)) (fun b => (sp 74 (K13 p0 p1 [(53, vB b)]) r1.2)) (by kernel_rfl) (fun hc => ?_) (fun hc => ?_)
    ·replace h := an hc h
     refine OL.G (d' := 19) [7, 9] (K13 p0 p1 [(53, vB true), (54, .d (.ptr p0 0)), (56, .loc 3 5)]) ?_
     obtain ⟨r24, hr_8, h⟩ := aa h
     refine OL.hav (b := true) (H := r1.2) 17 2047 74 (K13 p0 p1 [(53, vB true), (55, vI r24), (57, vI p1.jN)]) ?_ (fun c2047 => ?_)
     ·refine OL.G (d' := 14) [11, 12, 13] (K13 p0 p1 [(60, vB (r24 == p1.jN))]) ?_
      refine OL.case (r24 == p1.jN) (fun b => (sp 74 (K13 p0 p1 [(60, vB b)]) r1.2)) (by kernel_rfl) (fun hc => ?_) (fun hc => ?_)
      ·replace h := an hc h
       refine OL.G (d' := 12) [14, 16] (K13 p0 p1 [(60, vB true), (61, .d (.ptr p0 0)), (63, .loc 3 4)]) ?_
       obtain ⟨r35, hr_15, h⟩ := aa h
       refine OL.hav (b := true) (H := r35.2) 10 262143 74 (K13 p0 p1 [(60, vB true), (62, .own 3 (List.map ab r35.1)), (64, nt p1)]) ?_ (fun c262143 => ?_)
       ·obtain ⟨r46, hr_18, h⟩ := aa h
        refine OL.F 18 cJ <| OWk.C (d := some 65) (ls := [(.slot 62)]) (gs := []) [] (K13 p0 p1 [(60, vB true), (65, vB r46)]) (jd hr_18) <| OWk.D <| OL.G (d' := 7) [19, 20] (K13 p0 p1 [(67, vB r46)]) ?_
        refine OL.case r46 (fun b => (sp 74 (K13 p0 p1 [(67, vB b)]) r35.2)) (by kernel_rfl) (fun hc => ?_) (fun hc => ?_)
        ·replace h := an hc h
         refine OL.G (d' := 6) [21] [(3, kD p1), (67, vB true), (68, .d (.ptr p0 0))] ?_
         obtain ⟨r47, hr_22, h⟩ := aa h
         refine OL.hav (b := true) (H := r47.2) 4 16777215 74 [(67, vB true), (69, .own 1 (List.map (D.int .i64) r47.1)), (70, ve p1)] ?_ (fun c16777215 => ?_)
         ·obtain ⟨r58, hr_24, h⟩ := aa h
          refine OL.F 24 cJ <| OWk.C0 (some 71) [(67, vB true), (69, kG r47), (71, .own 1 (List.map (D.int .i64) r58))] (pd hr_24) <| OWk.D ?_
          obtain ⟨r59, hr_25, h⟩ := aa h
          refine OL.F 25 cJ <| OWk.C (d := some 72) (ls := [(.slot 69), (.slot 71)]) (gs := []) [] [(67, vB true), (72, vB r59)] (oc hr_25) <| OWk.D <| OL.G (d' := 0) [26, 27] [(4, vB r59)] <| OL.fin (by kernel_rfl) <| ad <| SW.ret ?_
          cases h
          exact aA.ret [] (by kernel_rfl) rfl
         refine OL.hav (b := true) (H := r47.2) 5 8388607 74 [(3, kD p1), (67, vB true), (69, .own 1 (List.map (D.int .i64) r47.1))] ?_ (fun c8388607 => ?_)
         ·refine OL.step (i0 := 23) (is := []) (by kernel_rfl) ⟨cr.W ?_ cJ, trivial⟩
          ·refine OWk.G 1 [(67, vB true), (69, kG r47), (70, ve p1)] <| OWk.D ?_
           exact c16777215
         refine OL.hav (b := true) (H := r35.2) 5 12582911 74 [(67, vB true), (68, .d (.ptr p0 0)), (70, ve p1)] ?_ (fun c12582911 => ?_)
         ·refine OL.step (i0 := 22) (is := []) (by kernel_rfl) ⟨cr.W ?_ cJ, trivial⟩
          ·refine OWk.CH (some 69) [(67, vB true), (69, kG r47), (70, ve p1)] (hD hr_22) <| OWk.D ?_
           exact c16777215
         refine OL.step (i0 := 22) (is := [23]) (by kernel_rfl) ⟨cr.W ?_ cJ, cr.W ?_ cJ, trivial⟩
         ·refine OWk.CH (some 69) [(3, kD p1), (67, vB true), (69, .own 1 (List.map (D.int .i64) r47.1))] (hD hr_22) <| OWk.D ?_
          exact c8388607
         ·refine OWk.G 1 [(67, vB true), (68, .d (.ptr p0 0)), (70, ve p1)] <| OWk.D ?_
          exact c12582911
        ·replace h := ao hc h
         refine OL.G (d' := 0) [21, 23, 22, 24, 25, 26, 27] [(4, vB false)] <| OL.fin (by kernel_rfl) <| ad <| SW.ret ?_
         cases h
         exact aA.ret [] (by kernel_rfl) rfl
       refine OL.hav (b := true) (H := r35.2) 11 131071 74 (K13 p0 p1 [(60, vB true), (62, .own 3 (List.map ab r35.1)), (63, .loc 3 4)]) ?_ (fun c131071 => ?_)
       ·refine OL.step (i0 := 17) (is := []) (by kernel_rfl) ⟨cr.W ?_ cJ, trivial⟩
        ·refine OWk.G 1 (K13 p0 p1 [(60, vB true), (62, oz r35), (64, nt p1)]) <| OWk.D ?_
         exact c262143
       refine OL.hav (b := true) (H := r1.2) 11 229375 74 (K13 p0 p1 [(60, vB true), (61, .d (.ptr p0 0)), (64, nt p1)]) ?_ (fun c229375 => ?_)
       ·refine OL.step (i0 := 15) (is := []) (by kernel_rfl) ⟨cr.W ?_ cJ, trivial⟩
        ·refine OWk.CH (some 62) (K13 p0 p1 [(60, vB true), (62, oz r35), (64, nt p1)]) (iN hr_15) <| OWk.D ?_
         exact c262143
       refine OL.step (i0 := 15) (is := [17]) (by kernel_rfl) ⟨cr.W ?_ cJ, cr.W ?_ cJ, trivial⟩
       ·refine OWk.CH (some 62) (K13 p0 p1 [(60, vB true), (62, .own 3 (List.map ab r35.1)), (63, .loc 3 4)]) (iN hr_15) <| OWk.D ?_
        exact c131071
       ·refine OWk.G 1 (K13 p0 p1 [(60, vB true), (61, .d (.ptr p0 0)), (64, nt p1)]) <| OWk.D ?_
        exact c229375
      ·replace h := ao hc h
       refine OL.G (d' := 0) [14, 16, 17, 15, 18, 19, 20, 21, 23, 22, 24, 25, 26, 27] [(4, vB false)] <| OL.fin (by kernel_rfl) <| ad <| SW.ret ?_
       cases h
       exact aA.ret [] (by kernel_rfl) rfl
     refine OL.hav (b := true) (H := r1.2) 18 1023 74 (K13 p0 p1 [(53, vB true), (55, vI r24), (56, .loc 3 5)]) ?_ (fun c1023 => ?_)
     ·refine OL.step (i0 := 10) (is := []) (by kernel_rfl) ⟨cr.W ?_ cJ, trivial⟩
      ·refine OWk.G 1 (K13 p0 p1 [(53, vB true), (55, vI r24), (57, vI p1.jN)]) <| OWk.D ?_
       exact c2047
     refine OL.hav (b := true) (H := r1.2) 18 1791 74 (K13 p0 p1 [(53, vB true), (54, .d (.ptr p0 0)), (57, vI p1.jN)]) ?_ (fun c1791 => ?_)
     ·refine OL.step (i0 := 8) (is := []) (by kernel_rfl) ⟨cr.W ?_ cJ, trivial⟩
      ·refine OWk.CR (ls := []) (some 55) (K13 p0 p1 [(53, vB true), (55, vI r24), (57, vI p1.jN)]) (jS hr_8) <| OWk.D ?_
       exact c2047
     refine OL.step (i0 := 8) (is := [10]) (by kernel_rfl) ⟨cr.W ?_ cJ, cr.W ?_ cJ, trivial⟩
     ·refine OWk.CR (ls := []) (some 55) (K13 p0 p1 [(53, vB true), (55, vI r24), (56, .loc 3 5)]) (jS hr_8) <| OWk.D ?_
      exact c1023
     ·refine OWk.G 1 (K13 p0 p1 [(53, vB true), (54, .d (.ptr p0 0)), (57, vI p1.jN)]) <| OWk.D ?_
      exact c1791
    ·replace h := ao hc h
     refine OL.G (d' := 0) [7, 9, 10, 8, 11, 12, 13, 14, 16, 17, 15, 18, 19, 20, 21, 23, 22, 24, 25, 26, 27] [(4, vB false)] <| OL.fin (by kernel_rfl) <| ad <| SW.ret ?_
     cases h
     exact aA.ret [] (by kernel_rfl) rfl
   refine OL.hav (b := true) (H := r1.2) 24 15 74 (K13 p0 p1 [(48, vI r8), (50, nt p1)]) ?_ (fun c15 => ?_)
   ·refine OL.step (i0 := 4) (is := []) (by kernel_rfl) ⟨cr.W ?_ cJ, trivial⟩
    ·refine OWk.O (d := some 51) (K13 p0 p1 [(48, vI r8), (51, wR p1)]) (BAt.len (enc := ab) (xs := p1.All) (by kernel_rfl)) <| OWk.D ?_
     exact c31
   refine OL.hav (b := true) (H := r1.2) 24 29 74 (K13 p0 p1 [(47, .d (.ptr p0 0)), (51, wR p1)]) ?_ (fun c29 => ?_)
   ·refine OL.step (i0 := 1) (is := []) (by kernel_rfl) ⟨cr.W ?_ cJ, trivial⟩
    ·refine OWk.CR (ls := []) (some 48) (K13 p0 p1 [(48, vI r8), (51, wR p1)]) (gJ hr_1) <| OWk.D ?_
     exact c31
   refine OL.hav (b := true) (H := r1.2) 25 7 74 (K13 p0 p1 [(48, vI r8), (49, .loc 3 4)]) ?_ (fun c7 => ?_)
   ·refine OL.step (i0 := 3) (is := []) (by kernel_rfl) ⟨cr.W ?_ cJ, trivial⟩
    ·refine OWk.G 1 (K13 p0 p1 [(48, vI r8), (50, nt p1)]) <| OWk.D ?_
     exact c15
   refine OL.hav (b := true) (H := r1.2) 25 13 74 (K13 p0 p1 [(47, .d (.ptr p0 0)), (50, nt p1)]) ?_ (fun c13 => ?_)
   ·refine OL.step (i0 := 1) (is := [4]) (by kernel_rfl) ⟨cr.W ?_ cJ, cr.W ?_ cJ, trivial⟩
    ·refine OWk.CR (ls := []) (some 48) (K13 p0 p1 [(48, vI r8), (50, nt p1)]) (gJ hr_1) <| OWk.D ?_
     exact c15
    ·refine OWk.O (d := some 51) (K13 p0 p1 [(47, .d (.ptr p0 0)), (51, wR p1)]) (BAt.len (enc := ab) (xs := p1.All) (by kernel_rfl)) <| OWk.D ?_
     exact c29
   refine OL.step (i0 := 1) (is := [3]) (by kernel_rfl) ⟨cr.W ?_ cJ, cr.W ?_ cJ, trivial⟩
   ·refine OWk.CR (ls := []) (some 48) (K13 p0 p1 [(48, vI r8), (49, .loc 3 4)]) (gJ hr_1) <| OWk.D ?_
    exact c7
   ·refine OWk.G 1 (K13 p0 p1 [(47, .d (.ptr p0 0)), (50, nt p1)]) <| OWk.D ?_
    exact c13
 ·refine SW.cw (by kernel_rfl) (by kernel_rfl) <| OQk.G 3 (K102 p0 p1 r1 [(6, mG r2), (7, vI r2.2.1), (25, vB (r2.2.2 != 0))]) <| OQk.mg 74 r1.2 [0, 3, 5, 6, 28] 3 (r2.2.2 != 0) (fun b => (sp 74 (K102 p0 p1 r1 [(6, mG r2), (7, vI r2.2.1), (25, vB b)]) r1.2)) (fun b => (K102 p0 p1 r1 [(6, mG r2), (28, vB (b || (r2.2.1 != (-1))))])) (by kernel_rfl) (by kernel_rfl) (by kernel_rfl) <| OQk.G 1 (K102 p0 p1 r1 [(6, mG r2), (29, CV r2)]) ?_
  refine OQk.case ((r2.2.2 != 0) || (r2.2.1 != (-1))) (fun b => (sp 74 (K102 p0 p1 r1 [(6, mG r2), (29, vB b)]) r1.2)) (by kernel_rfl) (fun hc => ?_) (fun hc => ?_)
  ·replace h := an hc h
   refine OQk.G 17 (K13 p0 p1 [(46, vB true)]) <| OQk.done (by kernel_rfl) ?_
   exact ⟨true, [], by kernel_rfl, h⟩
  ·replace h := ao hc h
   refine OQk.G 4 (K102 p0 p1 r1 [(29, vB false), (31, CU r2), (33, nt p1)]) ?_
   obtain ⟨r5, hr, h⟩ := aa h
   refine OQk.cl 74 r1.2 (d := some 34) (ls := []) [0, 3, 5, 29, 34] (K102 p0 p1 r1 [(29, vB false), (34, vB r5)]) (jd hr) (by kernel_rfl) (by kernel_rfl) (by kernel_rfl) <| OQk.G 3 (K102 p0 p1 r1 [(37, vB (!r5))]) ?_
   refine OQk.case (!r5) (fun b => (sp 74 (K102 p0 p1 r1 [(37, vB b)]) r1.2)) (by kernel_rfl) (fun hc => ?_) (fun hc => ?_)
   ·replace h := an hc h
    refine OQk.G 9 (K13 p0 p1 [(46, vB true)]) <| OQk.done (by kernel_rfl) ?_
    exact ⟨true, [], by kernel_rfl, h⟩
   ·replace h := ao hc h
    refine OQk.G 1 (K102 p0 p1 r1 [(37, vB false), (38, .d (.ptr p0 0))]) ?_
    obtain ⟨r6, hr, h⟩ := aa h
    refine OQk.CR (ls := []) (some 39) (K102 p0 p1 r1 [(37, vB false), (39, vI r6)]) (cW hr) <| OQk.G 1 (K13 p0 p1 [(37, vB false), (39, vI r6), (40, AM r1)]) ?_
    obtain ⟨x7, hx, h⟩ := aa h
    refine OQk.on 74 r1.2 (d := some 41) (s := aO none (Go.Sh.D.cells (aI x7))) [0, 3, 37, 39, 41] (K13 p0 p1 [(37, vB false), (39, vI r6), (41, .d (.aR [.int .i64 x7.Level, .list 3 (List.map ab x7.Entries), .list 1 (List.map (D.int .i64) x7.Kids)]))]) (BAt.index (n := 3) hx (by kernel_rfl)) (by kernel_rfl) <| OQk.G 5 (K13 p0 p1 [(46, CQ r6 x7)]) <| OQk.done (by kernel_rfl) ?_
    exact ⟨(r6 != (IntKind.wrap .i64 (x7.Level + 1))), [], by kernel_rfl, h⟩
def cn (fuel : Nat) (p3 : (List Node)) (y1 : Int × Int × Hp) (x2 : Node) (x3 : Node) (y4 : Int × Hp) : Option ((Int × Hp) ⊕ ((Hp) ⊕ ((Bool)))) :=
 (idx p3 y1.2.1).bind fun x5 =>
 bif ((decide (y4.1 < (x5.Entries.length : Int))) && (decide ((IntKind.wrap .i64 ((IntKind.wrap .i64 (y1.1 + (x2.Entries.length : Int))) + (x3.Kids.length : Int))) < 200))) then
  (idx p3 y1.2.1).bind fun x6 =>
  (idx x6.Entries y4.1).bind fun x7 =>
  (ie fuel [x7.Row]).bind fun r8 =>
  bif (!r8) then
   (gX fuel).bind fun r9 =>
   some (.inr (.inr r9))
  else
   some (.inl ((IntKind.wrap .i64 (y4.1 + 1)), y4.2))
 else
  some (.inr (.inl y4.2))
def da (fuel : Nat) (p3 : (List Node)) (y1 : Int × Int × Hp) : Option ((Int × Int × Hp) ⊕ ((Int × Hp) ⊕ ((Bool)))) :=
 bif ((decide (y1.2.1 < (p3.length : Int))) && (decide (y1.2.1 < 40))) then
  (idx p3 y1.2.1).bind fun x2 =>
  (idx p3 y1.2.1).bind fun x3 =>
  (iter (cn fuel p3 y1 x2 x3) fuel (0, y1.2.2)).bind (Sum.elim (fun v11 =>
   some (.inl ((IntKind.wrap .i64 ((IntKind.wrap .i64 (y1.1 + (x2.Entries.length : Int))) + (x3.Kids.length : Int))), (IntKind.wrap .i64 (y1.2.1 + 1)), v11))) (fun r12 =>
   some (.inr (.inr r12))))
 else
  some (.inr (.inl (y1.1, y1.2.2)))
def iE (fuel : Nat) (p0 : ah) (p1 : Int) (p2 : Int) (p3 : (List Node)) : Option (Bool) :=
 (iter (da fuel p3) fuel (0, 0, [])).bind (Sum.elim (fun v14 =>
  aX (fun (j15 : Bool) =>
   bif j15 then
    (gX fuel).bind fun r18 =>
    some r18
   else
    (lV fuel p0 p1 p2 p3).bind fun r19 =>
    (kQ fuel p0 p1 p2 p3).bind fun r20 =>
    bif ((r19.1 != r20.1) || (r19.2 != r20.2)) then
     some false
    else
     (iO fuel p0 p1 p2 p3 v14.2).bind fun r21 =>
     (jW fuel p0 p1 p2 p3).bind fun r22 =>
     bif ((r21.1.2.1 == r22.2.1) && (r21.1.2.2 == r22.2.2)) then
      bif (r21.1.2.2 != 0) then
       (gX fuel).bind fun r23 =>
       some r23
      else
       r21.1.1.bind fun i24 =>
       (mq fuel i24 r22.1 r21.2).bind fun r25 =>
       bif r25.1 then
        (gX fuel).bind fun r26 =>
        some r26
       else
        some false
     else
      some false) fun jp16 =>
  bif ((decide ((p3.length : Int) > 40)) || (decide (v14.1 ≥ 200))) then
   jp16 true
  else
   (pD fuel p0 []).bind fun r17 =>
   jp16 (!r17)) (fun r27 =>
  some r27))
def K45 := fun a0 a1 a2 a3 a4 a5 a6 a7 a8 (t : SL) => ((1, vI a0) :: (2, vI a1) :: (3, Z0 a2) :: (4, Z1 a3) :: (9, tP a4 a5 a6) :: (10, vI a7) :: (11, vI a8) :: t : SL)
theorem pC {fuel : Nat} {p0 : ah} {p1 : Int} {p2 : Int} {p3 : (List Node)} {r : Bool} (h : iE fuel p0 p1 p2 p3 = some r) : PC Try.prog 4 [.d (bo p0), vI p1, vI p2, .d (.list 3 (List.map aI p3))] (vB r) := by
 refine PC.ju Try.func4 rfl (by simp [cU, cC, cD, vI, vB, vS, iS, dp (f := aI) lM]) (by simp [cU, cC, cD, vI, vB, vS]) ?_
 unfold iE at h
 refine SW.kp 145 [] [0, 1, 2, 3] [(0, Z23 p0), (1, vI p1), (2, vI p2), (3, Z0 p3)] (by kernel_rfl) <| SW.R 2 (K8 p1 p2 p3 p0 [(9, vI 0)]) <| SW.seq <| SW.R 1 (K8 p1 p2 p3 p0 [(9, vI 0), (10, vI 0)]) <| SW.block ?_
 obtain ⟨z13, hit, h⟩ := aa h
 refine SW.itH 145 [1, 2, 3, 4, 9, 10] (fun y1 => (K8 p1 p2 p3 p0 [(9, vI y1.1), (10, vI y1.2.1)])) (fun y1 => y1.2.2) (fun b e s => ((∃ v14, b = (.inl v14) ∧ (e = .exit 0 ∧ s = (sp 145 (K8 p1 p2 p3 p0 [(9, vI v14.1)]) v14.2))) ∨ (∃ r27, b = (.inr r27) ∧ (e = .ret ∧ gh Try.prog Try.f4.results.toList (vB r27) .ret s)))) hit (by kernel_rfl) (fun y1 o h => ?_) ?_
 ·unfold da at h
  refine SW.seq <| SW.S <| OWk.G 2 (K8 p1 p2 p3 p0 [(9, vI y1.1), (10, vI y1.2.1), (18, vI y1.2.1), (19, Z0 p3)]) <| OWk.O (d := some 20) (K8 p1 p2 p3 p0 [(9, vI y1.1), (10, vI y1.2.1), (18, vI y1.2.1), (20, vI (p3.length : Int))]) (BAt.len (enc := aI) (xs := p3) (by kernel_rfl)) <| OWk.G 2 (K8 p1 p2 p3 p0 [(9, vI y1.1), (10, vI y1.2.1), (22, C7 y1 p3)]) <| OWk.M 3 (decide (y1.2.1 < (p3.length : Int))) (fun b => (K8 p1 p2 p3 p0 [(9, vI y1.1), (10, vI y1.2.1), (22, vB b)])) (fun b => (K8 p1 p2 p3 p0 [(9, vI y1.1), (10, vI y1.2.1), (25, vB (b && (decide (y1.2.1 < 40))))])) <| OWk.E ?_
  refine SW.B ((decide (y1.2.1 < (p3.length : Int))) && (decide (y1.2.1 < 40))) (fun hc => ?_) (fun hc => ?_)
  ·replace h := an hc h
   refine SW.skip <| ad <| SW.seq <| SW.block <| SW.seq <| SW.fD 15 (by kernel_rfl) (by kernel_rfl) <| OBk.G 3 (K8 p1 p2 p3 p0 [(10, vI y1.2.1), (28, vI y1.1), (29, Z0 p3), (30, vI y1.2.1)]) ?_
   obtain ⟨x2, hx, h⟩ := aa h
   refine OBk.O (d := some 31) (s := aO none (Go.Sh.D.cells (aI x2))) (K8 p1 p2 p3 p0 [(10, vI y1.2.1), (28, vI y1.1), (31, .d (.aR [.int .i64 x2.Level, .list 3 (List.map ab x2.Entries), .list 1 (List.map (D.int .i64) x2.Kids)]))]) (BAt.index (n := 3) hx (by kernel_rfl)) <| OBk.G 2 (K8 p1 p2 p3 p0 [(10, vI y1.2.1), (28, vI y1.1), (33, Z3 x2)]) <| OBk.O (d := some 34) (K8 p1 p2 p3 p0 [(10, vI y1.2.1), (28, vI y1.1), (34, Z8 x2)]) (BAt.len (enc := ab) (xs := x2.Entries) (by kernel_rfl)) <| OBk.G 3 (K8 p1 p2 p3 p0 [(10, vI y1.2.1), (35, zH y1 x2), (36, Z0 p3), (37, vI y1.2.1)]) ?_
   obtain ⟨x3, hx, h⟩ := aa h
   refine OBk.O (d := some 38) (s := aO none (Go.Sh.D.cells (aI x3))) (K8 p1 p2 p3 p0 [(10, vI y1.2.1), (35, zH y1 x2), (38, .d (.aR [.int .i64 x3.Level, .list 3 (List.map ab x3.Entries), .list 1 (List.map (D.int .i64) x3.Kids)]))]) (BAt.index (n := 3) hx (by kernel_rfl)) <| OBk.G 2 (K8 p1 p2 p3 p0 [(10, vI y1.2.1), (35, zH y1 x2), (40, Z5 x3)]) <| OBk.O (d := some 41) (K8 p1 p2 p3 p0 [(10, vI y1.2.1), (35, zH y1 x2), (41, Z7 x3)]) (BAt.len (enc := (D.int .i64)) (xs := x3.Kids) (by kernel_rfl)) <| OBk.G 1 (K8 p1 p2 p3 p0 [(10, vI y1.2.1), (42, tP y1 x2 x3)]) <| OBk.done (by kernel_rfl) <| OWk.G 1 (K8 p1 p2 p3 p0 [(9, tP y1 x2 x3), (10, vI y1.2.1)]) <| OWk.E <| SW.R 1 (K8 p1 p2 p3 p0 [(9, tP y1 x2 x3), (10, vI y1.2.1), (11, vI 0)]) <| SW.block ?_
   obtain ⟨z10, hit, h⟩ := aa h
   refine SW.itH 145 [1, 2, 3, 4, 9, 10, 11] (fun y4 => (K45 p1 p2 p3 p0 y1 x2 x3 y1.2.1 y4.1 [])) (fun y4 => y4.2) (fun b e s => ((∃ v11, b = (.inl v11) ∧ (e = .exit 2 ∧ s = (sp 145 (K8 p1 p2 p3 p0 [(9, tP y1 x2 x3), (10, vI y1.2.1)]) v11))) ∨ (∃ r12, b = (.inr r12) ∧ (e = .ret ∧ gh Try.prog Try.f4.results.toList (vB r12) .ret s)))) hit (by kernel_rfl) (fun y4 o h => ?_) ?_
   ·unfold cn at h
    refine SW.seq <| SW.S <| OWk.G 3 (K45 p1 p2 p3 p0 y1 x2 x3 y1.2.1 y4.1 [(43, vI y4.1), (44, Z0 p3), (45, vI y1.2.1)]) ?_
    obtain ⟨x5, hx, h⟩ := aa h
    refine OWk.O (d := some 46) (s := aO none (Go.Sh.D.cells (aI x5))) (K45 p1 p2 p3 p0 y1 x2 x3 y1.2.1 y4.1 [(43, vI y4.1), (46, .d (.aR [.int .i64 x5.Level, .list 3 (List.map ab x5.Entries), .list 1 (List.map (D.int .i64) x5.Kids)]))]) (BAt.index (n := 3) hx (by kernel_rfl)) <| OWk.G 2 (K45 p1 p2 p3 p0 y1 x2 x3 y1.2.1 y4.1 [(43, vI y4.1), (48, Z3 x5)]) <| OWk.O (d := some 49) (K45 p1 p2 p3 p0 y1 x2 x3 y1.2.1 y4.1 [(43, vI y4.1), (49, Z8 x5)]) (BAt.len (enc := ab) (xs := x5.Entries) (by kernel_rfl)) <| OWk.G 2 (K45 p1 p2 p3 p0 y1 x2 x3 y1.2.1 y4.1 [(51, C8 y4 x5)]) <| OWk.M 3 (decide (y4.1 < (x5.Entries.length : Int))) (fun b => (K45 p1 p2 p3 p0 y1 x2 x3 y1.2.1 y4.1 [(51, vB b)])) (fun b => (K45 p1 p2 p3 p0 y1 x2 x3 y1.2.1 y4.1 [(54, vB (b && (decide ((IntKind.wrap .i64 ((IntKind.wrap .i64 (y1.1 + (x2.Entries.length : Int))) + (x3.Kids.length : Int))) < 200))))])) <| OWk.E ?_
    refine SW.B ((decide (y4.1 < (x5.Entries.length : Int))) && (decide ((IntKind.wrap .i64 ((IntKind.wrap .i64 (y1.1 + (x2.Entries.length : Int))) + (x3.Kids.length : Int))) < 200))) (fun hc => ?_) (fun hc => ?_)
    ·replace h := an hc h
     refine SW.skip <| ad <| SW.seq <| SW.block <| SW.S <| OWk.G 2 (K45 p1 p2 p3 p0 y1 x2 x3 y1.2.1 y4.1 [(57, Z0 p3), (58, vI y1.2.1)]) ?_
     obtain ⟨x6, hx, h⟩ := aa h
     refine OWk.O (d := some 59) (s := aO none (Go.Sh.D.cells (aI x6))) (K45 p1 p2 p3 p0 y1 x2 x3 y1.2.1 y4.1 [(59, .d (.aR [.int .i64 x6.Level, .list 3 (List.map ab x6.Entries), .list 1 (List.map (D.int .i64) x6.Kids)]))]) (BAt.index (n := 3) hx (by kernel_rfl)) <| OWk.G 3 (K45 p1 p2 p3 p0 y1 x2 x3 y1.2.1 y4.1 [(61, Z3 x6), (62, vI y4.1)]) ?_
     obtain ⟨x7, hx, h⟩ := aa h
     refine OWk.O (d := some 63) (s := aO none (Go.Sh.D.cells (ab x7))) (K45 p1 p2 p3 p0 y1 x2 x3 y1.2.1 y4.1 [(63, .d (.aR [.list 3 (List.map ag x7.Row), .int .i64 x7.Key, .int .i64 x7.Number]))]) (BAt.index (n := 3) hx (by kernel_rfl)) <| OWk.G 3 (K45 p1 p2 p3 p0 y1 x2 x3 y1.2.1 y4.1 [(66, Z10 x7)]) ?_
     obtain ⟨r8, hr, h⟩ := aa h
     refine OWk.C (d := some 67) (ls := [(.slot 66)]) (gs := []) [] (K45 p1 p2 p3 p0 y1 x2 x3 y1.2.1 y4.1 [(67, vB r8)]) (nN hr) <| OWk.G 1 (K45 p1 p2 p3 p0 y1 x2 x3 y1.2.1 y4.1 [(68, vB (!r8))]) <| OWk.E ?_
     refine SW.B (!r8) (fun hc => ?_) (fun hc => ?_)
     ·replace h := an hc h
      refine SW.S ?_
      obtain ⟨r9, hr, h⟩ := aa h
      refine OWk.C0 (some 69) [(69, vB r9)] (jx hr) <| OWk.G 1 [(8, vB r9)] <| OWk.E <| SW.ret <| ax <| af ?_
      cases h
      refine af ?_
      exact ⟨_, rfl, .inr (⟨r9, rfl, rfl, gh.ret [] (by kernel_rfl)⟩)⟩
     ·replace h := ao hc h
      refine SW.skip <| aH <| ad <| SW.au <| OWk.G 3 (K8 p1 p2 p3 p0 [(9, tP y1 x2 x3), (10, vI y1.2.1), (11, wV y4)]) <| OWk.D ?_
      cases h
      exact ⟨((IntKind.wrap .i64 (y4.1 + 1)), y4.2), rfl, by kernel_rfl⟩
    ·replace h := ao hc h
     refine SW.K (K8 p1 p2 p3 p0 [(9, tP y1 x2 x3), (10, vI y1.2.1)]) <| SW.exit <| aJ ?_
     cases h
     refine aJ ?_
     exact ⟨_, rfl, .inl ⟨y4.2, rfl, rfl, rfl⟩⟩
   ·rintro _ _ (⟨v11, rfl, rfl, rfl⟩ | ⟨r12, rfl, rfl, hE⟩)
    ·replace h := dO h
     refine aT <| aH <| ad <| SW.au <| OWk.G 3 (K8 p1 p2 p3 p0 [(9, tP y1 x2 x3), (10, C6 y1)]) <| OWk.D ?_
     cases h
     exact ⟨((IntKind.wrap .i64 ((IntKind.wrap .i64 (y1.1 + (x2.Entries.length : Int))) + (x3.Kids.length : Int))), (IntKind.wrap .i64 (y1.2.1 + 1)), v11), rfl, by kernel_rfl⟩
    ·replace h := dN h
     refine ax <| ax <| af ?_
     cases h
     refine af ?_
     exact ⟨_, rfl, .inr (⟨r12, rfl, rfl, hE⟩)⟩
  ·replace h := ao hc h
   refine SW.K (K8 p1 p2 p3 p0 [(9, vI y1.1)]) <| SW.exit <| aJ ?_
   cases h
   refine aJ ?_
   exact ⟨_, rfl, .inl ⟨(y1.1, y1.2.2), rfl, rfl, rfl⟩⟩
 ·rintro _ _ (⟨v14, rfl, rfl, rfl⟩ | ⟨r27, rfl, rfl, hE⟩)
  ·replace h := dO h
   refine aT <| ad <| SW.seq ?_
   obtain ⟨jp16, hjjp16, h⟩ := bt h
   refine SW.jn 145 v14.2 [1, 2, 3, 4, 81] (fun (j15 : Bool) => (K8 p1 p2 p3 p0 [(81, vB j15)])) (fun v => jp16 v = some r) (fun j15 h => ?_) ?_
   ·rw [hjjp16] at h
    refine SW.B j15 (fun hc => ?_) (fun hc => ?_)
    ·replace h := an hc h
     refine SW.S ?_
     obtain ⟨r18, hr, h⟩ := aa h
     refine OWk.C0 (some 82) [(82, vB r18)] (jx hr) <| OWk.G 1 [(8, vB r18)] <| OWk.E <| SW.ret <| af ?_
     cases h
     exact gh.ret [] (by kernel_rfl)
    ·replace h := ao hc h
     refine SW.skip <| ad <| SW.S <| OWk.G 4 (K8 p1 p2 p3 p0 [(84, Z23 p0), (85, vI p1), (86, vI p2), (87, Z0 p3)]) ?_
     obtain ⟨r19, hr, h⟩ := aa h
     refine OWk.C0 (some 88) (K8 p1 p2 p3 p0 [(88, .tup [vI r19.1, vI r19.2])]) (uj hr) <| OWk.G 5 (K8 p1 p2 p3 p0 [(12, vI r19.1), (13, vI r19.2)]) <| OWk.E <| SW.S <| OWk.G 4 (K8 p1 p2 p3 p0 [(12, vI r19.1), (13, vI r19.2), (92, Z23 p0), (93, vI p1), (94, vI p2), (95, Z0 p3)]) ?_
     obtain ⟨r20, hr, h⟩ := aa h
     refine OWk.C0 (some 96) (K8 p1 p2 p3 p0 [(12, vI r19.1), (13, vI r19.2), (96, .tup [vI r20.1, vI r20.2])]) (pc hr) <| OWk.G 5 (K8 p1 p2 p3 p0 [(12, vI r19.1), (13, vI r19.2), (14, vI r20.1), (15, vI r20.2)]) <| OWk.E <| SW.seq <| SW.S <| OWk.G 4 (K8 p1 p2 p3 p0 [(13, vI r19.2), (15, vI r20.2), (102, vB (r19.1 != r20.1))]) <| OWk.M 4 (r19.1 != r20.1) (fun b => (K8 p1 p2 p3 p0 [(13, vI r19.2), (15, vI r20.2), (102, vB b)])) (fun b => (K8 p1 p2 p3 p0 [(106, vB (b || (r19.2 != r20.2)))])) <| OWk.E ?_
     refine SW.B ((r19.1 != r20.1) || (r19.2 != r20.2)) (fun hc => ?_) (fun hc => ?_)
     ·replace h := an hc h
      refine SW.R 1 [(8, vB false)] <| SW.ret <| af ?_
      cases h
      exact gh.ret [] (by kernel_rfl)
     ·replace h := ao hc h
      refine SW.skip <| ad <| SW.S <| OWk.G 4 (K8 p1 p2 p3 p0 [(108, Z23 p0), (109, vI p1), (110, vI p2), (111, Z0 p3)]) ?_
      obtain ⟨r21, hr, h⟩ := aa h
      refine OWk.CH (some 112) (K8 p1 p2 p3 p0 [(112, .tup [.d (cP.enc r21.1.1), vI r21.1.2.1, vI r21.1.2.2])]) (qE hr) <| OWk.G 7 (K8 p1 p2 p3 p0 [(12, vI r21.1.2.1), (13, vI r21.1.2.2), (16, .d (cP.enc r21.1.1))]) <| OWk.E <| SW.S <| OWk.G 4 [(12, vI r21.1.2.1), (13, vI r21.1.2.2), (16, .d (cP.enc r21.1.1)), (117, Z23 p0), (118, vI p1), (119, vI p2), (120, Z0 p3)] ?_
      obtain ⟨r22, hr, h⟩ := aa h
      refine OWk.C0 (some 121) [(12, vI r21.1.2.1), (13, vI r21.1.2.2), (16, .d (cP.enc r21.1.1)), (121, .tup [.d (.agg [.list 1 (List.map (D.int .i64) r22.1.S.aq), .list 1 (List.map D.bool r22.1.S.Down), .int .i64 r22.1.S.Dup, .int .i64 r22.1.Order, .list 3 (List.map ab r22.1.All), .int .i64 r22.1.jN]), vI r22.2.1, vI r22.2.2])] (qI hr) <| OWk.G 8 [(12, vI r21.1.2.1), (13, vI r21.1.2.2), (14, vI r22.2.1), (15, vI r22.2.2), (16, .d (cP.enc r21.1.1)), (17, mG r22)] <| OWk.E <| SW.S <| OWk.G 4 [(13, vI r21.1.2.2), (15, vI r22.2.2), (16, .d (cP.enc r21.1.1)), (17, mG r22), (128, CY r21 r22)] <| OWk.M 4 (r21.1.2.1 == r22.2.1) (fun b => [(13, vI r21.1.2.2), (15, vI r22.2.2), (16, .d (cP.enc r21.1.1)), (17, mG r22), (128, vB b)]) (fun b => [(13, vI r21.1.2.2), (16, .d (cP.enc r21.1.1)), (17, mG r22), (132, vB (b && (r21.1.2.2 == r22.2.2)))]) <| OWk.G 1 [(13, vI r21.1.2.2), (16, .d (cP.enc r21.1.1)), (17, mG r22), (133, CX r21 r22)] ?_
      refine OWk.case ((r21.1.2.1 == r22.2.1) && (r21.1.2.2 == r22.2.2)) (fun b => (sp 145 [(13, vI r21.1.2.2), (16, .d (cP.enc r21.1.1)), (17, mG r22), (133, vB b)] r21.2)) (by kernel_rfl) (fun hc => ?_) (fun hc => ?_)
      ·replace h := an hc h
       refine OWk.G 3 [(16, .d (cP.enc r21.1.1)), (17, mG r22), (133, vB true), (136, vB (r21.1.2.2 != 0))] ?_
       refine OWk.case (r21.1.2.2 != 0) (fun b => (sp 145 [(16, .d (cP.enc r21.1.1)), (17, mG r22), (133, vB true), (136, vB b)] r21.2)) (by kernel_rfl) (fun hc => ?_) (fun hc => ?_)
       ·replace h := an hc h
        refine OWk.G 6 [(142, vB true)] ?_
        obtain ⟨r23, hr, h⟩ := aa h
        refine OWk.C0 (some 143) [(142, vB true), (143, vB r23)] (jx hr) <| OWk.G 2 [(8, vB r23)] <| OWk.E <| SW.ret ?_
        cases h
        exact gh.ret [] (by kernel_rfl)
       ·replace h := ao hc h
        refine OWk.G 2 [(133, vB true), (136, vB false), (137, .d (cP.enc r21.1.1)), (138, BP r22)] ?_
        obtain ⟨i24, hp_i24, h⟩ := aa h
        refine OWk.asP r21.1.1 (fun p => (sp 145 [(133, vB true), (136, vB false), (137, .d (cP.enc p)), (138, BP r22)] r21.2)) (by kernel_rfl) hp_i24 ?_
        obtain ⟨r25, hr, h⟩ := aa h
        refine OWk.CH (some 139) [(133, vB true), (136, vB false), (139, vB r25.1)] (uN hr) <| OWk.G 3 [(142, vB r25.1)] ?_
        refine OWk.case r25.1 (fun b => (sp 145 [(142, vB b)] r25.2)) (by kernel_rfl) (fun hc => ?_) (fun hc => ?_)
        ·replace h := an hc h
         obtain ⟨r26, hr, h⟩ := aa h
         refine OWk.C0 (some 143) [(142, vB true), (143, vB r26)] (jx hr) <| OWk.G 2 [(8, vB r26)] <| OWk.E <| SW.ret ?_
         cases h
         exact gh.ret [] (by kernel_rfl)
        ·replace h := ao hc h
         refine OWk.G 3 [(8, vB false)] <| OWk.E <| SW.ret ?_
         cases h
         exact gh.ret [] (by kernel_rfl)
      ·replace h := ao hc h
       refine OWk.G 12 [(8, vB false)] <| OWk.E <| SW.ret ?_
       cases h
       exact gh.ret [] (by kernel_rfl)
   ·refine SW.au <| OWk.G 1 (K8 p1 p2 p3 p0 [(9, vI v14.1), (70, Z0 p3)]) <| OWk.O (d := some 71) (K8 p1 p2 p3 p0 [(9, vI v14.1), (71, vI (p3.length : Int))]) (BAt.len (enc := aI) (xs := p3) (by kernel_rfl)) <| OWk.G 2 (K8 p1 p2 p3 p0 [(9, vI v14.1), (73, D5 p3)]) <| OWk.M 3 (decide ((p3.length : Int) > 40)) (fun b => (K8 p1 p2 p3 p0 [(9, vI v14.1), (73, vB b)])) (fun b => (K8 p1 p2 p3 p0 [(76, vB (b || (decide (v14.1 ≥ 200))))])) <| OWk.G 1 (K8 p1 p2 p3 p0 [(77, C5 p3 v14)]) ?_
    refine OWk.case ((decide ((p3.length : Int) > 40)) || (decide (v14.1 ≥ 200))) (fun b => (sp 145 (K8 p1 p2 p3 p0 [(77, vB b)]) v14.2)) (by kernel_rfl) (fun hc => ?_) (fun hc => ?_)
    ·replace h := an hc h
     refine OWk.G 4 (K8 p1 p2 p3 p0 [(81, vB true)]) <| OWk.D ?_
     exact ⟨true, [], by kernel_rfl, h⟩
    ·replace h := ao hc h
     refine OWk.G 1 (K8 p1 p2 p3 p0 [(77, vB false), (78, Z23 p0)]) ?_
     obtain ⟨r17, hr, h⟩ := aa h
     refine OWk.C0 (some 79) (K8 p1 p2 p3 p0 [(77, vB false), (79, vB r17)]) (wG hr) <| OWk.G 2 (K8 p1 p2 p3 p0 [(81, vB (!r17))]) <| OWk.D ?_
     exact ⟨(!r17), [], by kernel_rfl, h⟩
  ·replace h := dN h
   refine ax <| af ?_
   cases h
   exact hE
end Go.Sh
