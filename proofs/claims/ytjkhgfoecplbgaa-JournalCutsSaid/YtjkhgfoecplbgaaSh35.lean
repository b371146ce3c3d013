/- slices.Insert, slices.Delete, lists asked for nil, as printed proofs name them. -/
import Derived.Test.YtjkhgfoecplbgaaSh34
set_option linter.all false
set_option autoImplicit true
set_option relaxedAutoImplicit true
set_option linter.unusedVariables false
set_option linter.unusedSimpArgs false
namespace Go.Sh

theorem SW.insM {P : Program} {α : Type} {enc : α → D} {T I B e : TypeId} {fo : Nat} {ik : IntKind} {ti : TypeInfo} {z : Value} {zd : D} {n : Nat} {xs ys : List α} {i : Int} {H : List SObj} {Q : Exit → St → Prop} {Z : Code} {i8 i9 i10 i11 i12 i13 i14 i15 i16 i17 : Nat}
    {o8_0 o8_1 o8_2 o8_3 o8_4 o8_5 o9_0 o9_1 o9_2 o9_3 o9_4 o9_5 o9_6 o9_7 o9_8 o9_9 o10_0 o10_1 o10_2 o10_3 o10_4 o11_0 o11_1 o11_2 o11_3 o11_4 o11_5 o11_6 o11_7 o11_8 o12_0 o12_1 o13_0 o13_1 o13_2 o13_3 o13_4 o13_5 o14_0 o14_1 o14_2 o14_3 o14_4 o14_5 o14_6 o14_7 o15_0 o15_1 o15_2 o15_3 o15_4 o15_5 o15_6 o15_7 o15_8 o16_0 o16_1 o16_2 o16_3 o16_4 o17_0 o17_1 : Oper}
    (hc : (decide (0 ≤ i) && decide (i < xs.length) && decide (0 < ys.length) && decide (xs.length + ys.length ≤ room)) = true)
    (hT : P.underlying T = some (.slice e)) (hI : P.underlying I = some (.int ik)) (hi : P.info? e = some ti) (hz : ti.zero = some z) (hzd : constD z = some zd) (hzn : z.cells.size = n) (hsize : ti.size = n) (hn : 0 < n) (hby : ti.bytes ≤ 65536)
    (hov : ∀ (args : Array Value) (w : World), (callFunc fo args).run P w = ((Extern.SlicesOverlaps.overlaps #[T, T] #[B] args).run P w).andThen fun v w' => .ok (.value v) w')
    (hm : P.follows .mixedOrders = true) (hB11 : Region.lexTailB .any #[o11_0, o11_1, o11_2, o11_3, o11_4, o11_5, o11_6, o11_7, o11_8] 8 = true) (hB15 : Region.lexTailB .any #[o15_0, o15_1, o15_2, o15_3, o15_4, o15_5, o15_6, o15_7, o15_8] 8 = true)
    (h8_0 : isOp o8_0 (some 26) (.move (.tmp 8)))
    (h8_1 : isOp o8_1 (some 27) (.move (.tmp 7)))
    (h8_2 : isOp o8_2 (some 28) (.binOp .add I (.tmp 26) (.tmp 27) I))
    (h8_3 : isOp o8_3 (some 29) (.move (.tmp 0)))
    (h8_4 : isOp o8_4 (some 30) (.call ⟨.builtin .cap, #[.tmp 29], #[T]⟩))
    (h8_5 : isOp o8_5 (some 31) (.binOp .gtr I (.tmp 28) (.tmp 30) I))
    (h9_0 : isOp o9_0 (some 32) (.move (.tmp 0)))
    (h9_1 : isOp o9_1 (some 33) (.move (.tmp 1)))
    (h9_2 : isOp o9_2 (some 34) (.slice T (.tmp 32) none (some (.tmp 33)) none))
    (h9_3 : isOp o9_3 (some 35) (.move (.tmp 8)))
    (h9_4 : isOp o9_4 (some 36) (.move (.tmp 7)))
    (h9_5 : isOp o9_5 (some 37) (.binOp .add I (.tmp 35) (.tmp 36) I))
    (h9_6 : isOp o9_6 (some 38) (.move (.tmp 1)))
    (h9_7 : isOp o9_7 (some 39) (.binOp .sub I (.tmp 37) (.tmp 38) I))
    (h9_8 : isOp o9_8 (some 40) (.call ⟨.builtin .append, #[.tmp 34, .tmp 39], #[T, I]⟩))
    (h9_9 : isOp o9_9 (some 9) (.assign (.tmp 40)))
    (h10_0 : isOp o10_0 (some 41) (.move (.tmp 9)))
    (h10_1 : isOp o10_1 (some 42) (.move (.tmp 1)))
    (h10_2 : isOp o10_2 (some 43) (.slice T (.tmp 41) (some (.tmp 42)) none none))
    (h10_3 : isOp o10_3 (some 44) (.move (.tmp 2)))
    (h10_4 : isOp o10_4 (some 45) (.call ⟨.builtin .copy, #[.tmp 43, .tmp 44], #[T, T]⟩))
    (h11_0 : isOp o11_0 (some 46) (.move (.tmp 9)))
    (h11_1 : isOp o11_1 (some 47) (.move (.tmp 1)))
    (h11_2 : isOp o11_2 (some 48) (.move (.tmp 7)))
    (h11_3 : isOp o11_3 (some 49) (.binOp .add I (.tmp 47) (.tmp 48) I))
    (h11_4 : isOp o11_4 (some 50) (.slice T (.tmp 46) (some (.tmp 49)) none none))
    (h11_5 : isOp o11_5 (some 51) (.move (.tmp 0)))
    (h11_6 : isOp o11_6 (some 52) (.move (.tmp 1)))
    (h11_7 : isOp o11_7 (some 53) (.slice T (.tmp 51) (some (.tmp 52)) none none))
    (h11_8 : isOp o11_8 (some 54) (.call ⟨.builtin .copy, #[.tmp 50, .tmp 53], #[T, T]⟩))
    (h12_0 : isOp o12_0 (some 55) (.move (.tmp 9)))
    (h12_1 : isOp o12_1 (some 6) (.assign (.tmp 55)))
    (h13_0 : isOp o13_0 (some 56) (.move (.tmp 0)))
    (h13_1 : isOp o13_1 (some 57) (.move (.tmp 8)))
    (h13_2 : isOp o13_2 (some 58) (.move (.tmp 7)))
    (h13_3 : isOp o13_3 (some 59) (.binOp .add I (.tmp 57) (.tmp 58) I))
    (h13_4 : isOp o13_4 (some 60) (.slice T (.tmp 56) none (some (.tmp 59)) none))
    (h13_5 : isOp o13_5 (some 0) (.assign (.tmp 60)))
    (h14_0 : isOp o14_0 (some 61) (.move (.tmp 2)))
    (h14_1 : isOp o14_1 (some 62) (.move (.tmp 0)))
    (h14_2 : isOp o14_2 (some 63) (.move (.tmp 1)))
    (h14_3 : isOp o14_3 (some 64) (.move (.tmp 7)))
    (h14_4 : isOp o14_4 (some 65) (.binOp .add I (.tmp 63) (.tmp 64) I))
    (h14_5 : isOp o14_5 (some 66) (.slice T (.tmp 62) (some (.tmp 65)) none none))
    (h14_6 : isOp o14_6 (some 67) (.call ⟨.value (.func fo), #[.tmp 61, .tmp 66], #[T, T]⟩))
    (h14_7 : isOp o14_7 (some 68) (.unOp .not B (.tmp 67)))
    (h15_0 : isOp o15_0 (some 69) (.move (.tmp 0)))
    (h15_1 : isOp o15_1 (some 70) (.move (.tmp 1)))
    (h15_2 : isOp o15_2 (some 71) (.move (.tmp 7)))
    (h15_3 : isOp o15_3 (some 72) (.binOp .add I (.tmp 70) (.tmp 71) I))
    (h15_4 : isOp o15_4 (some 73) (.slice T (.tmp 69) (some (.tmp 72)) none none))
    (h15_5 : isOp o15_5 (some 74) (.move (.tmp 0)))
    (h15_6 : isOp o15_6 (some 75) (.move (.tmp 1)))
    (h15_7 : isOp o15_7 (some 76) (.slice T (.tmp 74) (some (.tmp 75)) none none))
    (h15_8 : isOp o15_8 (some 77) (.call ⟨.builtin .copy, #[.tmp 73, .tmp 76], #[T, T]⟩))
    (h16_0 : isOp o16_0 (some 78) (.move (.tmp 0)))
    (h16_1 : isOp o16_1 (some 79) (.move (.tmp 1)))
    (h16_2 : isOp o16_2 (some 80) (.slice T (.tmp 78) (some (.tmp 79)) none none))
    (h16_3 : isOp o16_3 (some 81) (.move (.tmp 2)))
    (h16_4 : isOp o16_4 (some 82) (.call ⟨.builtin .copy, #[.tmp 80, .tmp 81], #[T, T]⟩))
    (h17_0 : isOp o17_0 (some 83) (.move (.tmp 0)))
    (h17_1 : isOp o17_1 (some 6) (.assign (.tmp 83)))
    (hq : Q .ret (sp 95 [(6, .own n ((xs.take i.toNat ++ ys ++ xs.drop i.toNat).map enc))] H)) :
    SW P true (.seq (.seq (.region i8 #[o8_0, o8_1, o8_2, o8_3, o8_4, o8_5] false) (.cond (.tmp 31) (.seq (.region i9 #[o9_0, o9_1, o9_2, o9_3, o9_4, o9_5, o9_6, o9_7, o9_8, o9_9] false) (.seq (.region i10 #[o10_0, o10_1, o10_2, o10_3, o10_4] false) (.seq (.region i11 #[o11_0, o11_1, o11_2, o11_3, o11_4, o11_5, o11_6, o11_7, o11_8] true) (.seq (.region i12 #[o12_0, o12_1] false) .ret)))) .skip)) (.seq (.region i13 #[o13_0, o13_1, o13_2, o13_3, o13_4, o13_5] false) (.seq (.seq (.region i14 #[o14_0, o14_1, o14_2, o14_3, o14_4, o14_5, o14_6, o14_7] false) (.cond (.tmp 68) (.seq (.region i15 #[o15_0, o15_1, o15_2, o15_3, o15_4, o15_5, o15_6, o15_7, o15_8] true) (.seq (.region i16 #[o16_0, o16_1, o16_2, o16_3, o16_4] false) (.seq (.region i17 #[o17_0, o17_1] false) .ret))) .skip)) Z))) (sp 95 [(0, .own n (xs.map enc)), (1, vI i), (2, .d (.list n (ys.map enc))), (7, vI ys.length), (8, vI xs.length)] H) Q := by
  have := SW.ins (P := P) (xs := xs.map enc) (ys := ys.map enc) (i := i) (H := H) (Q := Q) (Z := Z) (i8 := i8) (i9 := i9) (i10 := i10) (i11 := i11) (i12 := i12) (i13 := i13) (i14 := i14) (i15 := i15) (i16 := i16) (i17 := i17) hT hI hi hz hzd hzn hsize hn hby hov hm hB11 hB15 h8_0 h8_1 h8_2 h8_3 h8_4 h8_5 h9_0 h9_1 h9_2 h9_3 h9_4 h9_5 h9_6 h9_7 h9_8 h9_9 h10_0 h10_1 h10_2 h10_3 h10_4 h11_0 h11_1 h11_2 h11_3 h11_4 h11_5 h11_6 h11_7 h11_8 h12_0 h12_1 h13_0 h13_1 h13_2 h13_3 h13_4 h13_5 h14_0 h14_1 h14_2 h14_3 h14_4 h14_5 h14_6 h14_7 h15_0 h15_1 h15_2 h15_3 h15_4 h15_5 h15_6 h15_7 h15_8 h16_0 h16_1 h16_2 h16_3 h16_4 h17_0 h17_1 (by simpa only [List.length_map] using hc)
  simp only [List.length_map, List.map_append, List.map_take, List.map_drop] at this hq ⊢
  exact this hq

section
variable {P : Program} {pu : Bool} {st : St} {ops : Array Oper} {k m : Nat} {Q : St → Prop}

/-- s[i:j:m], where only the bounds matter. -/
def sl3At (P : Program) (ops : Array Oper) (k : Nat) (st : St) : Option (Option Tmp × List D × Int × Int × Int) :=
  match opAt ops k st with
  | some o => match o.op with
    | .slice T x (some lo) (some hi) (some mx) => match (match valD st x with | some (.str _) => none | _ => listOf st x), intOf? st lo, intOf? st hi, intOf? st mx with
      | some (_, _, xs), some (_, i), some (_, j), some (_, mm) => if elemW P T != 0 then some (o.dst, xs, i, j, mm) else none
      | _, _, _, _ => none
    | _ => none
  | none => none

theorem BAt.sl3 {α : Type} {enc : α → D} {xs : List α} {d : Option Tmp} {i j mm : Int} (hc : (decide (0 ≤ i) && decide (i ≤ j) && decide (j ≤ mm) && decide (mm ≤ xs.length)) = true) (h : sl3At P ops k st = some (d, xs.map enc, i, j, mm)) : BAt P ops k st d .undef := by
  simp only [Bool.and_eq_true, decide_eq_true_eq] at hc
  obtain ⟨⟨⟨h0, h1⟩, h2⟩, h3⟩ := hc
  unfold sl3At at h
  split at h
  · rename_i o ho
    split at h
    · rename_i T x lo hi mx hop
      split at h
      · rename_i l n xs' ik i' jk j' mk mm' hl hi' hj' hm'
        split at h
        · rename_i hw
          simp only [Option.some.injEq, Prod.mk.injEq] at h
          obtain ⟨rfl, rfl, rfl, rfl, rfl⟩ := h
          obtain ⟨g1, g2⟩ := opAt_inv ho
          refine ⟨o, g1, g2, fun a w g hr => ?_, rfl, rfl⟩
          have hx : listOf st x = some (l, n, xs.map enc) := by
            split at hl
            · cases hl
            · exact hl
          have hL := listOf_sound hr hx
          have ev : ∀ {y : Operand} {kk : IntKind} {q : Int}, intOf? st y = some (kk, q) → a.eval y = .int kk q := fun h => by
            unfold intOf? at h
            split at h
            · rename_i k1 n1 hv1
              cases h
              exact valD_leaf hr hv1 rfl
            · cases h
          have e1 := ev hi'
          have e2 := ev hj'
          have e3 := ev hm'
          obtain ⟨base, len, cap, hv, hlen⟩ : ∃ base len cap, a.eval x = .slice base len cap ∧ xs.length ≤ cap := by
            rcases hL with ⟨hn, b0, cap, hv⟩ | ⟨kb, off, cap, c, T0, fz, us, hv, -, -, hp, -⟩
            · rw [List.map_eq_nil_iff] at hn; subst hn; exact ⟨b0, 0, cap, hv, by simp⟩
            · exact ⟨_, _, cap, hv, by simpa using hp⟩
          unfold elemW at hw
          split at hw
          · rename_i e hu
            have hz : P.cellsOf e ≠ 0 := by simpa using hw
            refine ⟨.slice (if mm'.toNat = i'.toNat + (mm'.toNat - i'.toNat) ∧ mm'.toNat = i'.toNat then base else base.map (·.add (i'.toNat * P.cellsOf e))) (j'.toNat - i'.toNat) (mm'.toNat - i'.toNat), trivial, fun w' _ => ?_⟩
            unfold execOp; rw [hop]
            show (do pure (.value (← Instr.sliceAt T (a.eval x) (some (a.eval lo)) (some (a.eval hi)) (some (a.eval mx)))) : Sem Next).run P w' = _
            have c1 : mm' ≤ (cap : Int) := by omega
            have c2 : 0 ≤ mm' := by omega
            have c3 : 0 ≤ j' := by omega
            have c4 : j' ≤ max mm' 0 := by omega
            have c5 : i' ≤ max j' 0 := by omega
            simp [hv, e1, e2, e3, Instr.sliceAt, Instr.slice, Instr.sliceBounds, Instr.sliceBound, asIntOf, run_underlying hu, c1, c2, c3, c4, c5, h0, sizeOf_ne hz]
            by_cases hq : mm'.toNat = i'.toNat
            · rw [if_pos hq, if_pos ⟨by omega, hq⟩]
            · rw [if_neg hq, if_neg (fun h => hq h.2)]
          · simp at hw
        · cases h
      · cases h
    · cases h
  · cases h

end

/-- A list that may be nil where it is empty: both ways have to tell the same. -/
def nilB {α ρ : Type} [DecidableEq ρ] (xs : List α) (f : Bool → Option ρ) : Option ρ := bif xs.isEmpty then (if f true = f false then f true else none) else f false

theorem nilB_inv {α ρ : Type} [DecidableEq ρ] {xs : List α} {f : Bool → Option ρ} {r : ρ} (h : nilB xs f = some r) (b : Bool) (hb : b = true → xs = []) : f b = some r := by
  unfold nilB at h
  cases hx : xs.isEmpty with
  | true =>
    rw [hx] at h
    simp only [cond_true] at h
    split at h
    · rename_i e; cases b
      · rw [← e]; exact h
      · exact h
    · cases h
  | false =>
    rw [hx] at h
    cases b with
    | false => exact h
    | true => have := hb rfl; subst this; simp at hx

theorem SW.delM {P : Program} {pu : Bool} {st : St} {α : Type} {enc : α → D} {id id2 : Nat} {o1 o2 o3 o4 o5 o6 o7 o8 p1 p2 p3 p4 p5 p6 : Oper} {Y : Code} {T e : TypeId} {ti : TypeInfo} {z : Value} {zd : D} {n : Nat} {xs : List α} {i j : Int} {Q : Exit → St → Prop} {t1 t2 t3 t4 t5 t6 t7 s a1 a2 a3 u1 u2 u3 u4 u5 : Nat} {st2 : St}
    (hij : (decide (0 ≤ i) && decide (i < j) && decide (j ≤ xs.length) && decide (xs.length ≤ room)) = true)
    (hm : P.follows .mixedOrders = true) (hB : Region.lexTailB .any #[o1, o2, o3, o4, o5, o6, o7, o8] 6 = true)
    (h1 : isOp o1 (some t1) (.move (.tmp s))) (h2 : isOp o2 (some t2) (.move (.tmp a1))) (h3 : isOp o3 (some t3) (.slice T (.tmp t1) none (some (.tmp t2)) none)) (h4 : isOp o4 (some t4) (.move (.tmp s))) (h5 : isOp o5 (some t5) (.move (.tmp a2)))
    (h6 : isOp o6 (some t6) (.slice T (.tmp t4) (some (.tmp t5)) none none)) (h7 : isOp o7 (some t7) (.call ⟨.builtin .append, #[.tmp t3, .tmp t6], #[T, T]⟩)) (h8 : isOp o8 (some s) (.assign (.tmp t7)))
    (k1 : isOp p1 (some u1) (.move (.tmp s))) (k2 : isOp p2 (some u2) (.move (.tmp s))) (k3 : isOp p3 (some u3) (.call ⟨.builtin .len, #[.tmp u2], #[T]⟩)) (k4 : isOp p4 (some u4) (.move (.tmp a3)))
    (k5 : isOp p5 (some u5) (.slice T (.tmp u1) (some (.tmp u3)) (some (.tmp u4)) none)) (k6 : isOp p6 none (.call ⟨.builtin .clear, #[.tmp u5], #[T]⟩))
    (hN : (decide (t1 < st.tmps.length) && decide (t2 < st.tmps.length) && decide (t3 < st.tmps.length) && decide (t4 < st.tmps.length) && decide (t5 < st.tmps.length) && decide (t6 < st.tmps.length) && decide (t7 < st.tmps.length)) = true)
    (hN2 : (decide (u1 < st.tmps.length) && decide (u2 < st.tmps.length) && decide (u3 < st.tmps.length) && decide (u4 < st.tmps.length) && decide (u5 < st.tmps.length)) = true)
    (hd : List.Pairwise (· ≠ ·) [s, a1, a2, t1, t2, t3, t4, t5, t6, t7]) (hd2 : List.Pairwise (· ≠ ·) [s, a3, u1, u2, u3, u4, u5])
    (hT : P.underlying T = some (.slice e)) (hi : P.info? e = some ti) (hz : ti.zero = some z) (hzd : constD z = some zd) (hzn : z.cells.size = n) (hsize : ti.size = n) (hn : 0 < n) (hby : ti.bytes ≤ 65536)
    (hs : st.tmps[s]? = some (.own n (xs.map enc))) (hi1 : valD st (.tmp a1) = some (.int .i64 i)) (hj1 : valD st (.tmp a2) = some (.int .i64 j))
    (hst2 : ((st.junk [t1, t2, t3, t4, t5, t6, t7]).take s).put (some s) (.own n ((xs.take i.toNat ++ xs.drop j.toNat).map enc)) = st2) (h3v : valD st2 (.tmp a3) = some (.int .i64 xs.length))
    (hq : SW P pu Y (st2.junk [u1, u2, u3, u4, u5]) Q) :
    SW P pu (.seq (.region id #[o1, o2, o3, o4, o5, o6, o7, o8] true) (.seq (.region id2 #[p1, p2, p3, p4, p5, p6] false) Y)) st Q :=
  SW.del (xs := xs.map enc) hm hB h1 h2 h3 h4 h5 h6 h7 h8 k1 k2 k3 k4 k5 k6 hN hN2 hd hd2 hT hi hz hzd hzn hsize hn hby hs hi1 hj1 (by simpa only [List.length_map] using hij) (by simpa only [List.map_append, List.map_take, List.map_drop] using hst2) (by rw [List.length_map]; exact h3v) hq
end Go.Sh
