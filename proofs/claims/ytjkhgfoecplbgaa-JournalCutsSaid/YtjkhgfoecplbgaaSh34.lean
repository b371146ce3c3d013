/- Printed by a program: the walk of slices.Insert behind the test whether it inserts at the end. -/
import Derived.Test.YtjkhgfoecplbgaaSh33
set_option linter.all false
set_option autoImplicit true
set_option relaxedAutoImplicit true
set_option linter.unusedVariables false
set_option linter.unusedSimpArgs false
set_option maxRecDepth 10000
set_option maxHeartbeats 2000000
namespace Go.Sh

theorem sp_one {n t : Nat} {s x : SV} {H : List SObj} (h : (sp n [(6, x)] H).tmps[t]? = some s) : s = .undef ∨ (t = 6 ∧ s = x) := by
  have key : ∀ (n t0 : Nat) (t : Nat) (s : SV), (spL [(6, x)] n t0)[t]? = some s → s = .undef ∨ (t + t0 = 6 ∧ s = x) := by
    intro n
    induction n with
    | zero => intro t0 t s h; simp [spL] at h
    | succ n ih =>
      intro t0 t s h
      simp only [spL] at h
      split at h
      · rename_i e
        cases t with
        | zero => simp at h; exact .inr ⟨by omega, h.symm⟩
        | succ t =>
          simp only [List.getElem?_cons_succ] at h
          refine .inl ?_
          have e2 : ∀ (n t0 t : Nat) (s : SV), (spL [] n t0)[t]? = some s → s = .undef := by
            intro n
            induction n with
            | zero => intro t0 t s h; simp [spL] at h
            | succ n ih => intro t0 t s h; cases t with
              | zero => simp [spL] at h; exact h.symm
              | succ t => simp only [spL, List.getElem?_cons_succ] at h; exact ih _ _ _ h
          exact e2 _ _ _ _ h
      · cases t with
        | zero => simp at h; exact .inl h.symm
        | succ t =>
          simp only [List.getElem?_cons_succ] at h
          rcases ih (t0 + 1) t s h with e | ⟨e1, e2⟩
          · exact .inl e
          · exact .inr ⟨by omega, e2⟩
  rcases key n 0 t s h with e | ⟨e1, e2⟩
  · exact .inl e
  · exact .inr ⟨by omega, e2⟩

theorem x_copy' {P : Program} {a : Act} {w w' : World} {o : Oper} {T T2 e ty : TypeId} {x y : Operand} {k off dl dc m n cnt : Nat} {cs : Array Value} (hu : P.underlying T = some (.slice e)) (hz : P.cellsOf e = n) (hn : n ≠ 0) (hx : a.eval x = .slice (some ⟨k, off, none⟩) dl dc)
    (hl : (Builtin.lenOf (a.eval y)).run P w = .ok m w) (hcnt : Nat.min m dl = cnt) (hc : (Builtin.firstCells n cnt (a.eval y)).run P w = .ok cs w) (hs : (storeCells ⟨k, off, none⟩ cs.toList).run P w = .ok () w') :
    (execOp a.eval { o with op := .call ⟨.builtin .copy, #[x, y], #[T, T2]⟩, type := ty }).run P w = .ok (.value (goInt cnt)) w' := by
  subst hcnt
  exact x_copy hu hz hn hx hl hc hs

/-- What slices.Insert does behind the test whether it inserts at the end. -/
theorem SW.ins {P : Program} {T I B e : TypeId} {fo : Nat} {ik : IntKind} {ti : TypeInfo} {z : Value} {zd : D} {n : Nat} {xs ys : List D} {i : Int} {H : List SObj} {Q : Exit → St → Prop} {Z : Code} {i8 i9 i10 i11 i12 i13 i14 i15 i16 i17 : Nat}
    {o8_0 o8_1 o8_2 o8_3 o8_4 o8_5 o9_0 o9_1 o9_2 o9_3 o9_4 o9_5 o9_6 o9_7 o9_8 o9_9 o10_0 o10_1 o10_2 o10_3 o10_4 o11_0 o11_1 o11_2 o11_3 o11_4 o11_5 o11_6 o11_7 o11_8 o12_0 o12_1 o13_0 o13_1 o13_2 o13_3 o13_4 o13_5 o14_0 o14_1 o14_2 o14_3 o14_4 o14_5 o14_6 o14_7 o15_0 o15_1 o15_2 o15_3 o15_4 o15_5 o15_6 o15_7 o15_8 o16_0 o16_1 o16_2 o16_3 o16_4 o17_0 o17_1 : Oper}
    (hT : P.underlying T = some (.slice e)) (hI : P.underlying I = some (.int ik)) (hi : P.info? e = some ti) (hz : ti.zero = some z) (hzd : constD z = some zd) (hzn : z.cells.size = n) (hsize : ti.size = n) (hn : 0 < n) (hby : ti.bytes ≤ 65536)
    (hov : ∀ (args : Array Value) (w : World), (callFunc fo args).run P w = ((Extern.SlicesOverlaps.overlaps #[T, T] #[B] args).run P w).andThen fun v w' => .ok (.value v) w')
    (hm : P.follows .mixedOrders = true) (hB11 : Region.lexTailB .any #[o11_0, o11_1, o11_2, o11_3, o11_4, o11_5, o11_6, o11_7, o11_8] 8 = true) (hB15 : Region.lexTailB .any #[o15_0, o15_1, o15_2, o15_3, o15_4, o15_5, o15_6, o15_7, o15_8] 8 = true)
    (h8_0 : isOp o8_0 (some 26) (.move (.tmp 8)))
    (h8_1 : isOp o8_1 (some 27) (.move (.tmp 7)))
    (h8_2 : isOp o8_2 (some 28) (.binOp .add I (.tmp 26) (.tmp 27) I))
    (h8_3 : isOp o8_3 (some 29) (.move (.tmp 0)))
    (h8_4 : isOp o8_4 (some 30) (.call ⟨.builtin .cap, #[.tmp 29], #[T]⟩))
    (h8_5 : isOp o8_5 (some 31) (.binOp .gtr I (.tmp 28) (.tmp 30) I))
    (h9_0 : isOp o9_0 (some 32) (.move (.tmp 0)))
    (h9_1 : isOp o9_1 (some 33) (.move (.tmp 1)))
    (h9_2 : isOp o9_2 (some 34) (.slice T (.tmp 32) none (some (.tmp 33)) none))
    (h9_3 : isOp o9_3 (some 35) (.move (.tmp 8)))
    (h9_4 : isOp o9_4 (some 36) (.move (.tmp 7)))
    (h9_5 : isOp o9_5 (some 37) (.binOp .add I (.tmp 35) (.tmp 36) I))
    (h9_6 : isOp o9_6 (some 38) (.move (.tmp 1)))
    (h9_7 : isOp o9_7 (some 39) (.binOp .sub I (.tmp 37) (.tmp 38) I))
    (h9_8 : isOp o9_8 (some 40) (.call ⟨.builtin .append, #[.tmp 34, .tmp 39], #[T, I]⟩))
    (h9_9 : isOp o9_9 (some 9) (.assign (.tmp 40)))
    (h10_0 : isOp o10_0 (some 41) (.move (.tmp 9)))
    (h10_1 : isOp o10_1 (some 42) (.move (.tmp 1)))
    (h10_2 : isOp o10_2 (some 43) (.slice T (.tmp 41) (some (.tmp 42)) none none))
    (h10_3 : isOp o10_3 (some 44) (.move (.tmp 2)))
    (h10_4 : isOp o10_4 (some 45) (.call ⟨.builtin .copy, #[.tmp 43, .tmp 44], #[T, T]⟩))
    (h11_0 : isOp o11_0 (some 46) (.move (.tmp 9)))
    (h11_1 : isOp o11_1 (some 47) (.move (.tmp 1)))
    (h11_2 : isOp o11_2 (some 48) (.move (.tmp 7)))
    (h11_3 : isOp o11_3 (some 49) (.binOp .add I (.tmp 47) (.tmp 48) I))
    (h11_4 : isOp o11_4 (some 50) (.slice T (.tmp 46) (some (.tmp 49)) none none))
    (h11_5 : isOp o11_5 (some 51) (.move (.tmp 0)))
    (h11_6 : isOp o11_6 (some 52) (.move (.tmp 1)))
    (h11_7 : isOp o11_7 (some 53) (.slice T (.tmp 51) (some (.tmp 52)) none none))
    (h11_8 : isOp o11_8 (some 54) (.call ⟨.builtin .copy, #[.tmp 50, .tmp 53], #[T, T]⟩))
    (h12_0 : isOp o12_0 (some 55) (.move (.tmp 9)))
    (h12_1 : isOp o12_1 (some 6) (.assign (.tmp 55)))
    (h13_0 : isOp o13_0 (some 56) (.move (.tmp 0)))
    (h13_1 : isOp o13_1 (some 57) (.move (.tmp 8)))
    (h13_2 : isOp o13_2 (some 58) (.move (.tmp 7)))
    (h13_3 : isOp o13_3 (some 59) (.binOp .add I (.tmp 57) (.tmp 58) I))
    (h13_4 : isOp o13_4 (some 60) (.slice T (.tmp 56) none (some (.tmp 59)) none))
    (h13_5 : isOp o13_5 (some 0) (.assign (.tmp 60)))
    (h14_0 : isOp o14_0 (some 61) (.move (.tmp 2)))
    (h14_1 : isOp o14_1 (some 62) (.move (.tmp 0)))
    (h14_2 : isOp o14_2 (some 63) (.move (.tmp 1)))
    (h14_3 : isOp o14_3 (some 64) (.move (.tmp 7)))
    (h14_4 : isOp o14_4 (some 65) (.binOp .add I (.tmp 63) (.tmp 64) I))
    (h14_5 : isOp o14_5 (some 66) (.slice T (.tmp 62) (some (.tmp 65)) none none))
    (h14_6 : isOp o14_6 (some 67) (.call ⟨.value (.func fo), #[.tmp 61, .tmp 66], #[T, T]⟩))
    (h14_7 : isOp o14_7 (some 68) (.unOp .not B (.tmp 67)))
    (h15_0 : isOp o15_0 (some 69) (.move (.tmp 0)))
    (h15_1 : isOp o15_1 (some 70) (.move (.tmp 1)))
    (h15_2 : isOp o15_2 (some 71) (.move (.tmp 7)))
    (h15_3 : isOp o15_3 (some 72) (.binOp .add I (.tmp 70) (.tmp 71) I))
    (h15_4 : isOp o15_4 (some 73) (.slice T (.tmp 69) (some (.tmp 72)) none none))
    (h15_5 : isOp o15_5 (some 74) (.move (.tmp 0)))
    (h15_6 : isOp o15_6 (some 75) (.move (.tmp 1)))
    (h15_7 : isOp o15_7 (some 76) (.slice T (.tmp 74) (some (.tmp 75)) none none))
    (h15_8 : isOp o15_8 (some 77) (.call ⟨.builtin .copy, #[.tmp 73, .tmp 76], #[T, T]⟩))
    (h16_0 : isOp o16_0 (some 78) (.move (.tmp 0)))
    (h16_1 : isOp o16_1 (some 79) (.move (.tmp 1)))
    (h16_2 : isOp o16_2 (some 80) (.slice T (.tmp 78) (some (.tmp 79)) none none))
    (h16_3 : isOp o16_3 (some 81) (.move (.tmp 2)))
    (h16_4 : isOp o16_4 (some 82) (.call ⟨.builtin .copy, #[.tmp 80, .tmp 81], #[T, T]⟩))
    (h17_0 : isOp o17_0 (some 83) (.move (.tmp 0)))
    (h17_1 : isOp o17_1 (some 6) (.assign (.tmp 83)))
    (hc : (decide (0 ≤ i) && decide (i < xs.length) && decide (0 < ys.length) && decide (xs.length + ys.length ≤ room)) = true)
    (hq : Q .ret (sp 95 [(6, .own n (xs.take i.toNat ++ ys ++ xs.drop i.toNat))] H)) :
    SW P true (.seq (.seq (.region i8 #[o8_0, o8_1, o8_2, o8_3, o8_4, o8_5] false) (.cond (.tmp 31) (.seq (.region i9 #[o9_0, o9_1, o9_2, o9_3, o9_4, o9_5, o9_6, o9_7, o9_8, o9_9] false) (.seq (.region i10 #[o10_0, o10_1, o10_2, o10_3, o10_4] false) (.seq (.region i11 #[o11_0, o11_1, o11_2, o11_3, o11_4, o11_5, o11_6, o11_7, o11_8] true) (.seq (.region i12 #[o12_0, o12_1] false) .ret)))) .skip)) (.seq (.region i13 #[o13_0, o13_1, o13_2, o13_3, o13_4, o13_5] false) (.seq (.seq (.region i14 #[o14_0, o14_1, o14_2, o14_3, o14_4, o14_5, o14_6, o14_7] false) (.cond (.tmp 68) (.seq (.region i15 #[o15_0, o15_1, o15_2, o15_3, o15_4, o15_5, o15_6, o15_7, o15_8] true) (.seq (.region i16 #[o16_0, o16_1, o16_2, o16_3, o16_4] false) (.seq (.region i17 #[o17_0, o17_1] false) .ret))) .skip)) Z))) (sp 95 [(0, .own n xs), (1, vI i), (2, .d (.list n ys)), (7, vI ys.length), (8, vI xs.length)] H) Q := by
  intro a w g hr
  simp only [Bool.and_eq_true, decide_eq_true_eq] at hc
  obtain ⟨⟨⟨i0, il⟩, m0⟩, hroom⟩ := hc
  obtain ⟨i, rfl⟩ : ∃ p : Nat, i = (p : Int) := ⟨i.toNat, by omega⟩
  simp only [Int.toNat_natCast] at hq
  have il : i < xs.length := by omega
  unfold room at hroom
  have hce : P.cellsOf e = n := by simp [Program.cellsOf, hi, hsize]
  have hn0 : P.cellsOf e ≠ 0 := by omega
  have hsz : a.tmps.size = 95 := by rw [hr.len]; simp [sp, spL_len]
  have g0 : ROwn g w (.slot 0) (valOf a 0) n xs := hr.tmp 0 (.own n xs) rfl
  have e1 : a.eval (.tmp 1) = .int .i64 (i : Int) := valD_leaf hr (d := .int .i64 (i : Int)) rfl rfl
  have e7 : a.eval (.tmp 7) = .int .i64 (ys.length : Int) := valD_leaf hr (d := .int .i64 (ys.length : Int)) rfl rfl
  have e8 : a.eval (.tmp 8) = .int .i64 (xs.length : Int) := valD_leaf hr (d := .int .i64 (xs.length : Int)) rfl rfl
  rcases g0 with ⟨rfl, -⟩ | ⟨k, off, cap, c, T0, us, hv, hk, hb, hl, hzz, hw, hcc, hrr⟩
  · simp at il
  have e0 : a.eval (.tmp 0) = .slice (some ⟨k, off, none⟩) xs.length cap := hv
  rcases (hr.tmp 2 (.d (.list n ys)) rfl : Rd g w (valOf a 2) (.list n ys)).toList with ⟨rfl, -⟩ | ⟨kv, ov, cv, av, Tv, fz, uv, hv2, hk2, hb2, hl2, hw2, hcc2, hrr2⟩
  · simp at m0
  have e2 : a.eval (.tmp 2) = .slice (some ⟨kv, ov, none⟩) ys.length cv := hv2
  have hkv : g.ow kv = .free := okL_free.1 hk2
  have hne : kv ≠ k := by rintro rfl; rw [hk] at hkv; cases hkv
  have hdef := hr.def0
  have flx := ROwn.flatC (g := g) (w := w) (k := k) (T := T0) (o := .slot 0) hn rfl hl hzz hw hcc hrr
  have hav : ov + ys.length * n ≤ av.size := by
    have hx : ys[ys.length - 1]? = some ys[ys.length - 1] := by simp [m0]
    have hcl := hw2 _ _ hx
    obtain ⟨h1, -⟩ := hcc2 _ _ hx (n - 1) (ys[ys.length - 1].cells[n - 1]'(by omega)) (by simp)
    have := arr_lt h1
    have h2 : ys.length * n = (ys.length - 1) * n + n := by
      obtain ⟨m, hm⟩ : ∃ m, ys.length = m + 1 := ⟨ys.length - 1, by omega⟩
      rw [hm, Nat.add_sub_cancel, Nat.succ_mul]
    omega
  have fly : RFlat g w (av.extract ov (ov + ys.length * n)) n ys := by
    refine ⟨by simp [Nat.min_eq_left hav], hw2, fun p x hx j y hy => ⟨uv p j, ?_, hrr2 p x hx j y hy, (hcc2 p x hx j y hy).2⟩⟩
    have hj : j < n := by rw [← hw2 p x hx]; exact get_lt hy
    have := get_lt hx
    have : (p + 1) * n ≤ ys.length * n := Nat.mul_le_mul_right _ this
    rw [Nat.succ_mul] at this
    rw [Array.getElem?_extract, if_pos (by omega), ← Nat.add_assoc]
    exact (hcc2 p x hx j y hy).1
  have hin : i * n + (xs.length - i) * n = xs.length * n := by rw [← Nat.add_mul]; congr 1; omega
  have hcapn : xs.length * n ≤ cap * n := Nat.mul_le_mul_right _ hl
  have hmn : 0 < ys.length * n := Nat.mul_pos m0 hn
  let zs := xs.take i ++ ys ++ xs.drop i
  have hzl : zs.length = xs.length + ys.length := by simp [zs]; omega
  have flz : RFlat g w ((c.extract off (off + xs.length * n)).extract 0 (i * n) ++ av.extract ov (ov + ys.length * n) ++ (c.extract off (off + xs.length * n)).extract (i * n) (xs.length * n)) n zs := ((flx.take (by omega)).append fly).append (flx.drop (by omega))
  have hf1 : ((c.extract off (off + xs.length * n)).extract 0 (i * n)).size = i * n := by rw [(flx.take (i := i) (by omega)).1, List.length_take, Nat.min_eq_left (by omega)]
  have hf2 : (av.extract ov (ov + ys.length * n)).size = ys.length * n := fly.1
  have hflat : ∀ q, q < zs.length * n → ((c.extract off (off + xs.length * n)).extract 0 (i * n) ++ av.extract ov (ov + ys.length * n) ++ (c.extract off (off + xs.length * n)).extract (i * n) (xs.length * n))[q]? = if q < i * n then c[off + q]? else if q < i * n + ys.length * n then av[ov + (q - i * n)]? else c[off + (q - ys.length * n)]? := fun q hq => by
    rw [hzl, Nat.add_mul] at hq
    have hszF := flx.1
    split
    · rw [Array.append_assoc, Array.getElem?_append_left (by omega), Array.getElem?_extract, if_pos (by omega), Array.getElem?_extract, if_pos (by omega)]
      congr 1; omega
    · split
      · rw [Array.append_assoc, Array.getElem?_append_right (by omega), hf1, Array.getElem?_append_left (by omega), Array.getElem?_extract, if_pos (by omega)]
      · rw [Array.append_assoc, Array.getElem?_append_right (by omega), hf1, Array.getElem?_append_right (by omega), hf2, Array.getElem?_extract, if_pos (by omega), Array.getElem?_extract, if_pos (by omega)]
        congr 1; omega
  have fin : ∀ (a' : Act) (w' : World) (g' : Gh) (v : Value), a'.tmps.size = 95 → a'.defers = [] → a'.eval (.tmp 6) = v → ROwn g' w' (.slot 6) v n zs → (∀ o, o ≠ .lst (.slot 0) → Keep o g w g' w') → g'.ρ = g.ρ → w.heap.size ≤ w'.heap.size → SameOs w w' → ∃ st' g', Q .ret st' ∧ Rel st' a' w' g' ∧ Fr true g w g' w' := fun a' w' g' v h1 h2 h3 h4 h5 h6 h7 h8 => by
    refine ⟨_, g', hq, ⟨by rw [h1]; simp [sp, spL_len], h2, fun t s hs => ?_, ?_⟩, Fr.keepBut (l := .slot 0) (by simp) h7 h5 h6 h8⟩
    · rcases sp_one hs with rfl | ⟨rfl, rfl⟩
      · trivial
      · show ROwn g' w' (.slot 6) (a'.eval (.tmp 6)) n zs
        rw [h3]; exact h4
    · exact hr.hp.keep (fun o ho => h5 o fun e => by subst e; exact ho.elim) (fun _ _ h => by rw [h6]; exact h) (by rw [h6])
  refine wp_seq (wp_seq (wp_region_lit (l := [o8_0, o8_1, o8_2, o8_3, o8_4, o8_5]) ?_))
  refine list_val h8_0 (w' := w) (v := .int .i64 (xs.length : Int)) (fun _ => by rw [x_move]; simp [ev_ne, ev_eq, put_sz, hsz, e0, e1, e2, e7, e8]) ?_
  refine list_val h8_1 (w' := w) (v := .int .i64 (ys.length : Int)) (fun _ => by rw [x_move]; simp [ev_ne, ev_eq, put_sz, hsz, e0, e1, e2, e7, e8]) ?_
  refine list_val h8_2 (w' := w) (v := .int .i64 ((xs.length : Int) + (ys.length : Int))) (fun _ => x_add (by simp [ev_ne, ev_eq, put_sz, hsz, e0, e1, e2, e7, e8]) (by simp [ev_ne, ev_eq, put_sz, hsz, e0, e1, e2, e7, e8]) (by constructor <;> omega)) ?_
  refine list_val h8_3 (w' := w) (v := .slice (some ⟨k, off, none⟩) (xs.length) (cap)) (fun _ => by rw [x_move]; simp [ev_ne, ev_eq, put_sz, hsz, e0, e1, e2, e7, e8]) ?_
  refine list_val h8_4 (w' := w) (v := goInt cap) (fun _ => x_cap (b := some ⟨k, off, none⟩) (n := xs.length) hT (by simp [ev_ne, ev_eq, put_sz, hsz, e0, e1, e2, e7, e8])) ?_
  refine list_val h8_5 (w' := w) (v := .bool (decide ((xs.length : Int) + (ys.length : Int) > (cap : Int)))) (fun _ => x_gtr (by simp [ev_ne, ev_eq, put_sz, hsz, e0, e1, e2, e7, e8]) (by simp [ev_ne, ev_eq, put_sz, hsz]; rfl)) ?_
  generalize hA : (((((a.put (some 26) (.int .i64 (xs.length : Int))).put (some 27) (.int .i64 (ys.length : Int))).put (some 28) (.int .i64 ((xs.length : Int) + (ys.length : Int)))).put (some 29) (.slice (some ⟨k, off, none⟩) (xs.length) (cap))).put (some 30) (goInt cap)).put (some 31) (.bool (decide ((xs.length : Int) + (ys.length : Int) > (cap : Int)))) = b
  have e0' : b.eval (.tmp 0) = .slice (some ⟨k, off, none⟩) (xs.length) (cap) := by subst hA; simp [ev_ne, ev_eq, put_sz, hsz, e0, e1, e2, e7, e8]
  have e1' : b.eval (.tmp 1) = .int .i64 (i : Int) := by subst hA; simp [ev_ne, ev_eq, put_sz, hsz, e0, e1, e2, e7, e8]
  have e2' : b.eval (.tmp 2) = .slice (some ⟨kv, ov, none⟩) (ys.length) (cv) := by subst hA; simp [ev_ne, ev_eq, put_sz, hsz, e0, e1, e2, e7, e8]
  have e7' : b.eval (.tmp 7) = .int .i64 (ys.length : Int) := by subst hA; simp [ev_ne, ev_eq, put_sz, hsz, e0, e1, e2, e7, e8]
  have e8' : b.eval (.tmp 8) = .int .i64 (xs.length : Int) := by subst hA; simp [ev_ne, ev_eq, put_sz, hsz, e0, e1, e2, e7, e8]
  have n31' : b.eval (.tmp 31) = .bool (decide ((xs.length : Int) + (ys.length : Int) > (cap : Int))) := by subst hA; simp [ev_ne, ev_eq, put_sz, hsz, e0, e1, e2, e7, e8]
  have hsz' : b.tmps.size = 95 := by subst hA; simp [put_sz, hsz, e0, e1, e2, e7, e8]
  have hdef' : b.defers = [] := by subst hA; simpa [put_defers'] using hdef
  clear hA hsz hdef e0 e1 e2 e7 e8
  have e0 := e0'
  have e1 := e1'
  have e2 := e2'
  have e7 := e7'
  have e8 := e8'
  have n31 := n31'
  have hsz := hsz'
  have hdef := hdef'
  clear hsz' hdef' e0' e1' e2' e7' e8' n31'
  refine wp_cond n31 ?_
  by_cases hroomy : xs.length + ys.length ≤ cap
  · rw [show decide ((xs.length : Int) + (ys.length : Int) > (cap : Int)) = false by simp; omega]
    refine wp_skip (wp_seq (wp_region_lit (l := [o13_0, o13_1, o13_2, o13_3, o13_4, o13_5]) ?_))
    refine list_val h13_0 (w' := w) (v := .slice (some ⟨k, off, none⟩) (xs.length) (cap)) (fun _ => by rw [x_move]; simp [ev_ne, ev_eq, put_sz, hsz, e0, e1, e2, e7, e8]) ?_
    refine list_val h13_1 (w' := w) (v := .int .i64 (xs.length : Int)) (fun _ => by rw [x_move]; simp [ev_ne, ev_eq, put_sz, hsz, e0, e1, e2, e7, e8]) ?_
    refine list_val h13_2 (w' := w) (v := .int .i64 (ys.length : Int)) (fun _ => by rw [x_move]; simp [ev_ne, ev_eq, put_sz, hsz, e0, e1, e2, e7, e8]) ?_
    refine list_val h13_3 (w' := w) (v := .int .i64 ((xs.length : Int) + (ys.length : Int))) (fun _ => x_add (by simp [ev_ne, ev_eq, put_sz, hsz, e0, e1, e2, e7, e8]) (by simp [ev_ne, ev_eq, put_sz, hsz, e0, e1, e2, e7, e8]) (by constructor <;> omega)) ?_
    refine list_val h13_4 (w' := w) (v := .slice (some ⟨k, off, none⟩) (xs.length + ys.length) (cap)) (fun _ => by rw [x_sliceHi (k := k) (off := off) (len := xs.length) (cap := cap) (i := (xs.length : Int) + (ys.length : Int)) hT hn0 (by simp [ev_ne, ev_eq, put_sz, hsz, e0, e1, e2, e7, e8]) (by simp [ev_ne, ev_eq, put_sz, hsz, e0, e1, e2, e7, e8]) (by omega) (by omega)]; rw [show ((xs.length : Int) + (ys.length : Int)).toNat = xs.length + ys.length by omega]) ?_
    refine list_val h13_5 (w' := w) (v := .slice (some ⟨k, off, none⟩) (xs.length + ys.length) (cap)) (fun _ => by rw [x_assign]; simp [ev_ne, ev_eq, put_sz, hsz, e0, e1, e2, e7, e8]) ?_
    generalize hA : (((((b.put (some 56) (.slice (some ⟨k, off, none⟩) (xs.length) (cap))).put (some 57) (.int .i64 (xs.length : Int))).put (some 58) (.int .i64 (ys.length : Int))).put (some 59) (.int .i64 ((xs.length : Int) + (ys.length : Int)))).put (some 60) (.slice (some ⟨k, off, none⟩) (xs.length + ys.length) (cap))).put (some 0) (.slice (some ⟨k, off, none⟩) (xs.length + ys.length) (cap)) = b2
    have e0' : b2.eval (.tmp 0) = .slice (some ⟨k, off, none⟩) (xs.length + ys.length) (cap) := by subst hA; simp [ev_ne, ev_eq, put_sz, hsz, e0, e1, e2, e7, e8]
    have e1' : b2.eval (.tmp 1) = .int .i64 (i : Int) := by subst hA; simp [ev_ne, ev_eq, put_sz, hsz, e0, e1, e2, e7, e8]
    have e2' : b2.eval (.tmp 2) = .slice (some ⟨kv, ov, none⟩) (ys.length) (cv) := by subst hA; simp [ev_ne, ev_eq, put_sz, hsz, e0, e1, e2, e7, e8]
    have e7' : b2.eval (.tmp 7) = .int .i64 (ys.length : Int) := by subst hA; simp [ev_ne, ev_eq, put_sz, hsz, e0, e1, e2, e7, e8]
    have e8' : b2.eval (.tmp 8) = .int .i64 (xs.length : Int) := by subst hA; simp [ev_ne, ev_eq, put_sz, hsz, e0, e1, e2, e7, e8]
    have hsz' : b2.tmps.size = 95 := by subst hA; simp [put_sz, hsz, e0, e1, e2, e7, e8]
    have hdef' : b2.defers = [] := by subst hA; simpa [put_defers'] using hdef
    clear hA hsz hdef e0 e1 e2 e7 e8
    have e0 := e0'
    have e1 := e1'
    have e2 := e2'
    have e7 := e7'
    have e8 := e8'
    have hsz := hsz'
    have hdef := hdef'
    clear hsz' hdef' e0' e1' e2' e7' e8'
    refine wp_seq (wp_seq (wp_region_lit (l := [o14_0, o14_1, o14_2, o14_3, o14_4, o14_5, o14_6, o14_7]) ?_))
    refine list_val h14_0 (w' := w) (v := .slice (some ⟨kv, ov, none⟩) (ys.length) (cv)) (fun _ => by rw [x_move]; simp [ev_ne, ev_eq, put_sz, hsz, e0, e1, e2, e7, e8]) ?_
    refine list_val h14_1 (w' := w) (v := .slice (some ⟨k, off, none⟩) (xs.length + ys.length) (cap)) (fun _ => by rw [x_move]; simp [ev_ne, ev_eq, put_sz, hsz, e0, e1, e2, e7, e8]) ?_
    refine list_val h14_2 (w' := w) (v := .int .i64 (i : Int)) (fun _ => by rw [x_move]; simp [ev_ne, ev_eq, put_sz, hsz, e0, e1, e2, e7, e8]) ?_
    refine list_val h14_3 (w' := w) (v := .int .i64 (ys.length : Int)) (fun _ => by rw [x_move]; simp [ev_ne, ev_eq, put_sz, hsz, e0, e1, e2, e7, e8]) ?_
    refine list_val h14_4 (w' := w) (v := .int .i64 ((i : Int) + (ys.length : Int))) (fun _ => x_add (by simp [ev_ne, ev_eq, put_sz, hsz, e0, e1, e2, e7, e8]) (by simp [ev_ne, ev_eq, put_sz, hsz, e0, e1, e2, e7, e8]) (by constructor <;> omega)) ?_
    refine list_val h14_5 (w' := w) (v := .slice (some ⟨k, off + (i + ys.length) * n, none⟩) (xs.length + ys.length - (i + ys.length)) (cap - (i + ys.length))) (fun _ => by rw [x_sliceLo (k := k) (off := off) (len := xs.length + ys.length) (cap := cap) (i := (i : Int) + (ys.length : Int)) hT hn0 (by simp [ev_ne, ev_eq, put_sz, hsz, e0, e1, e2, e7, e8]) (by simp [ev_ne, ev_eq, put_sz, hsz, e0, e1, e2, e7, e8]) (by omega) (by omega), hce]; rw [show ((i : Int) + (ys.length : Int)).toNat = i + ys.length by omega, if_neg (by omega)]) ?_
    refine list_val h14_6 (w' := w) (v := .bool false) (fun _ => ?_) ?_
    · have hovr := run_overlaps (P := P) (T := T) (ps := #[T, T]) (rs := #[B]) (ov := ov) (cv := cv) (o2 := off + (i + ys.length) * n) (cb := cap - (i + ys.length)) (m := ys.length) (lb := xs.length + ys.length - (i + ys.length)) rfl hT hn0 hb2 hb hne m0 (by omega) (by omega)
      rw [x_callF, hov]
      simp only [ev_ne (show (66 : Nat) ≠ 61 by decide), ev_ne (show (65 : Nat) ≠ 61 by decide), ev_ne (show (64 : Nat) ≠ 61 by decide), ev_ne (show (63 : Nat) ≠ 61 by decide), ev_ne (show (62 : Nat) ≠ 61 by decide)]
      rw [ev_eq (by omega), ev_eq (by simp only [put_sz]; omega), hovr]
      rfl
    refine list_val h14_7 (w' := w) (v := .bool true) (fun _ => x_not (b := false) (by simp [ev_ne, ev_eq, put_sz, hsz, e0, e1, e2, e7, e8])) ?_
    generalize hA : (((((((b2.put (some 61) (.slice (some ⟨kv, ov, none⟩) (ys.length) (cv))).put (some 62) (.slice (some ⟨k, off, none⟩) (xs.length + ys.length) (cap))).put (some 63) (.int .i64 (i : Int))).put (some 64) (.int .i64 (ys.length : Int))).put (some 65) (.int .i64 ((i : Int) + (ys.length : Int)))).put (some 66) (.slice (some ⟨k, off + (i + ys.length) * n, none⟩) (xs.length + ys.length - (i + ys.length)) (cap - (i + ys.length)))).put (some 67) (.bool false)).put (some 68) (.bool true) = b3
    have e0' : b3.eval (.tmp 0) = .slice (some ⟨k, off, none⟩) (xs.length + ys.length) (cap) := by subst hA; simp [ev_ne, ev_eq, put_sz, hsz, e0, e1, e2, e7, e8]
    have e1' : b3.eval (.tmp 1) = .int .i64 (i : Int) := by subst hA; simp [ev_ne, ev_eq, put_sz, hsz, e0, e1, e2, e7, e8]
    have e2' : b3.eval (.tmp 2) = .slice (some ⟨kv, ov, none⟩) (ys.length) (cv) := by subst hA; simp [ev_ne, ev_eq, put_sz, hsz, e0, e1, e2, e7, e8]
    have e7' : b3.eval (.tmp 7) = .int .i64 (ys.length : Int) := by subst hA; simp [ev_ne, ev_eq, put_sz, hsz, e0, e1, e2, e7, e8]
    have e8' : b3.eval (.tmp 8) = .int .i64 (xs.length : Int) := by subst hA; simp [ev_ne, ev_eq, put_sz, hsz, e0, e1, e2, e7, e8]
    have n68' : b3.eval (.tmp 68) = .bool true := by subst hA; simp [ev_ne, ev_eq, put_sz, hsz, e0, e1, e2, e7, e8]
    have hsz' : b3.tmps.size = 95 := by subst hA; simp [put_sz, hsz, e0, e1, e2, e7, e8]
    have hdef' : b3.defers = [] := by subst hA; simpa [put_defers'] using hdef
    clear hA hsz hdef e0 e1 e2 e7 e8
    have e0 := e0'
    have e1 := e1'
    have e2 := e2'
    have e7 := e7'
    have e8 := e8'
    have n68 := n68'
    have hsz := hsz'
    have hdef := hdef'
    clear hsz' hdef' e0' e1' e2' e7' e8' n68'
    refine wp_cond_true n68 (wp_seq (wp_region_still_tail (l := [o15_0, o15_1, o15_2, o15_3, o15_4, o15_5, o15_6, o15_7, o15_8]) 8 hm hB15 ?_))
    show wpStill P _ w.drew (fun a' => wpList P _ _ [o15_8] a' w.drew) [o15_0, o15_1, o15_2, o15_3, o15_4, o15_5, o15_6, o15_7] b3
    refine still_val h15_0 (v := .slice (some ⟨k, off, none⟩) (xs.length + ys.length) (cap)) (fun _ => by rw [x_move]; simp [ev_ne, ev_eq, put_sz, hsz, e0, e1, e2, e7, e8]) ?_
    refine still_val h15_1 (v := .int .i64 (i : Int)) (fun _ => by rw [x_move]; simp [ev_ne, ev_eq, put_sz, hsz, e0, e1, e2, e7, e8]) ?_
    refine still_val h15_2 (v := .int .i64 (ys.length : Int)) (fun _ => by rw [x_move]; simp [ev_ne, ev_eq, put_sz, hsz, e0, e1, e2, e7, e8]) ?_
    refine still_val h15_3 (v := .int .i64 ((i : Int) + (ys.length : Int))) (fun _ => x_add (by simp [ev_ne, ev_eq, put_sz, hsz, e0, e1, e2, e7, e8]) (by simp [ev_ne, ev_eq, put_sz, hsz, e0, e1, e2, e7, e8]) (by constructor <;> omega)) ?_
    refine still_val h15_4 (v := .slice (some ⟨k, off + (i + ys.length) * n, none⟩) (xs.length + ys.length - (i + ys.length)) (cap - (i + ys.length))) (fun _ => by rw [x_sliceLo (k := k) (off := off) (len := xs.length + ys.length) (cap := cap) (i := (i : Int) + (ys.length : Int)) hT hn0 (by simp [ev_ne, ev_eq, put_sz, hsz, e0, e1, e2, e7, e8]) (by simp [ev_ne, ev_eq, put_sz, hsz, e0, e1, e2, e7, e8]) (by omega) (by omega), hce]; rw [show ((i : Int) + (ys.length : Int)).toNat = i + ys.length by omega, if_neg (by omega)]) ?_
    refine still_val h15_5 (v := .slice (some ⟨k, off, none⟩) (xs.length + ys.length) (cap)) (fun _ => by rw [x_move]; simp [ev_ne, ev_eq, put_sz, hsz, e0, e1, e2, e7, e8]) ?_
    refine still_val h15_6 (v := .int .i64 (i : Int)) (fun _ => by rw [x_move]; simp [ev_ne, ev_eq, put_sz, hsz, e0, e1, e2, e7, e8]) ?_
    refine still_val h15_7 (v := .slice (some ⟨k, off + i * n, none⟩) (xs.length + ys.length - i) (cap - i)) (fun _ => by rw [x_sliceLo (k := k) (off := off) (len := xs.length + ys.length) (cap := cap) (i := (i : Int)) hT hn0 (by simp [ev_ne, ev_eq, put_sz, hsz, e0, e1, e2, e7, e8]) (by simp [ev_ne, ev_eq, put_sz, hsz, e0, e1, e2, e7, e8]) (by omega) (by omega), hce]; rw [show ((i : Int)).toNat = i by omega, if_neg (by omega)]) ?_
    generalize hA : (((((((b3.put (some 69) (.slice (some ⟨k, off, none⟩) (xs.length + ys.length) (cap))).put (some 70) (.int .i64 (i : Int))).put (some 71) (.int .i64 (ys.length : Int))).put (some 72) (.int .i64 ((i : Int) + (ys.length : Int)))).put (some 73) (.slice (some ⟨k, off + (i + ys.length) * n, none⟩) (xs.length + ys.length - (i + ys.length)) (cap - (i + ys.length)))).put (some 74) (.slice (some ⟨k, off, none⟩) (xs.length + ys.length) (cap))).put (some 75) (.int .i64 (i : Int))).put (some 76) (.slice (some ⟨k, off + i * n, none⟩) (xs.length + ys.length - i) (cap - i)) = b4
    have e0' : b4.eval (.tmp 0) = .slice (some ⟨k, off, none⟩) (xs.length + ys.length) (cap) := by subst hA; simp [ev_ne, ev_eq, put_sz, hsz, e0, e1, e2, e7, e8]
    have e1' : b4.eval (.tmp 1) = .int .i64 (i : Int) := by subst hA; simp [ev_ne, ev_eq, put_sz, hsz, e0, e1, e2, e7, e8]
    have e2' : b4.eval (.tmp 2) = .slice (some ⟨kv, ov, none⟩) (ys.length) (cv) := by subst hA; simp [ev_ne, ev_eq, put_sz, hsz, e0, e1, e2, e7, e8]
    have e7' : b4.eval (.tmp 7) = .int .i64 (ys.length : Int) := by subst hA; simp [ev_ne, ev_eq, put_sz, hsz, e0, e1, e2, e7, e8]
    have e8' : b4.eval (.tmp 8) = .int .i64 (xs.length : Int) := by subst hA; simp [ev_ne, ev_eq, put_sz, hsz, e0, e1, e2, e7, e8]
    have n73' : b4.eval (.tmp 73) = .slice (some ⟨k, off + (i + ys.length) * n, none⟩) (xs.length + ys.length - (i + ys.length)) (cap - (i + ys.length)) := by subst hA; simp [ev_ne, ev_eq, put_sz, hsz, e0, e1, e2, e7, e8]
    have n76' : b4.eval (.tmp 76) = .slice (some ⟨k, off + i * n, none⟩) (xs.length + ys.length - i) (cap - i) := by subst hA; simp [ev_ne, ev_eq, put_sz, hsz, e0, e1, e2, e7, e8]
    have hsz' : b4.tmps.size = 95 := by subst hA; simp [put_sz, hsz, e0, e1, e2, e7, e8]
    have hdef' : b4.defers = [] := by subst hA; simpa [put_defers'] using hdef
    clear hA hsz hdef e0 e1 e2 e7 e8
    have e0 := e0'
    have e1 := e1'
    have e2 := e2'
    have e7 := e7'
    have e8 := e8'
    have n73 := n73'
    have n76 := n76'
    have hsz := hsz'
    have hdef := hdef'
    clear hsz' hdef' e0' e1' e2' e7' e8' n73' n76'
    have hbd : w.drew.heap[k]? = some (.cells c T0 (0, 0)) := hb
    have hcapM : (xs.length + ys.length) * n ≤ cap * n := Nat.mul_le_mul_right _ hroomy
    rw [Nat.add_mul] at hcapM
    have him : (i + ys.length) * n = i * n + ys.length * n := Nat.add_mul _ _ _
    have htl : (c.extract (off + i * n) (off + i * n + (xs.length - i) * n)).size = (xs.length - i) * n := by simp; omega
    have hone1 : ∀ v ∈ (c.extract (off + i * n) (off + i * n + (xs.length - i) * n)).toList, v.oneCell' = true := by
      have := flx.one
      intro v hv
      refine this v ?_
      simp only [Array.mem_toList_iff, Array.mem_extract_iff_getElem] at hv ⊢
      obtain ⟨q, hq1, rfl⟩ := hv
      exact ⟨i * n + q, by omega, by congr 1; omega⟩
    obtain ⟨w1, q1, q2, q3, c1, q4, q5, q6⟩ := run_storeCells' (P := P) k (off + (i + ys.length) * n) T0 (c.extract (off + i * n) (off + i * n + (xs.length - i) * n)).toList 0 c w.drew hbd (by simp only [Array.length_toList, htl]; omega) hone1
    have osw1 := storeCells_os (P := P) k (off + (i + ys.length) * n) T0 (c.extract (off + i * n) (off + i * n + (xs.length - i) * n)).toList 0 c w.drew w1 hbd (by simp only [Array.length_toList, htl]; omega) hone1 q1
    refine list_val h15_8 (w' := w1) (v := goInt ((xs.length - i : Nat) : Int).toNat) (fun _ => ?_) ?_
    · rw [Int.toNat_natCast]
      refine x_copy' (m := xs.length + ys.length - i) (cs := c.extract (off + i * n) (off + i * n + (xs.length - i) * n)) hT hce (by omega) n73 (by rw [n76]; rfl) (by rw [show xs.length + ys.length - (i + ys.length) = xs.length - i by omega]; exact Nat.min_eq_right (by omega)) ?_ q1
      rw [n76]
      simp only [Builtin.firstCells]
      exact run_cells (P := P) hbd (by omega)
    generalize hA : b4.put (some 77) (goInt ((xs.length - i : Nat) : Int).toNat) = b5
    have e0' : b5.eval (.tmp 0) = .slice (some ⟨k, off, none⟩) (xs.length + ys.length) (cap) := by subst hA; simp [ev_ne, ev_eq, put_sz, hsz, e0, e1, e2, e7, e8]
    have e1' : b5.eval (.tmp 1) = .int .i64 (i : Int) := by subst hA; simp [ev_ne, ev_eq, put_sz, hsz, e0, e1, e2, e7, e8]
    have e2' : b5.eval (.tmp 2) = .slice (some ⟨kv, ov, none⟩) (ys.length) (cv) := by subst hA; simp [ev_ne, ev_eq, put_sz, hsz, e0, e1, e2, e7, e8]
    have e7' : b5.eval (.tmp 7) = .int .i64 (ys.length : Int) := by subst hA; simp [ev_ne, ev_eq, put_sz, hsz, e0, e1, e2, e7, e8]
    have e8' : b5.eval (.tmp 8) = .int .i64 (xs.length : Int) := by subst hA; simp [ev_ne, ev_eq, put_sz, hsz, e0, e1, e2, e7, e8]
    have hsz' : b5.tmps.size = 95 := by subst hA; simp [put_sz, hsz]
    have hdef' : b5.defers = [] := by subst hA; simpa [put_defers'] using hdef
    clear hA hsz hdef e0 e1 e2 e7 e8
    have e0 := e0'
    have e1 := e1'
    have e2 := e2'
    have e7 := e7'
    have e8 := e8'
    have hsz := hsz'
    have hdef := hdef'
    refine wp_seq (wp_region_lit (l := [o16_0, o16_1, o16_2, o16_3, o16_4]) ?_)
    refine list_val h16_0 (w' := w1) (v := .slice (some ⟨k, off, none⟩) (xs.length + ys.length) (cap)) (fun _ => by rw [x_move]; simp [ev_ne, ev_eq, put_sz, hsz, e0, e1, e2, e7, e8]) ?_
    refine list_val h16_1 (w' := w1) (v := .int .i64 (i : Int)) (fun _ => by rw [x_move]; simp [ev_ne, ev_eq, put_sz, hsz, e0, e1, e2, e7, e8]) ?_
    refine list_val h16_2 (w' := w1) (v := .slice (some ⟨k, off + i * n, none⟩) (xs.length + ys.length - i) (cap - i)) (fun _ => by rw [x_sliceLo (k := k) (off := off) (len := xs.length + ys.length) (cap := cap) (i := (i : Int)) hT hn0 (by simp [ev_ne, ev_eq, put_sz, hsz, e0, e1, e2, e7, e8]) (by simp [ev_ne, ev_eq, put_sz, hsz, e0, e1, e2, e7, e8]) (by omega) (by omega), hce]; rw [show ((i : Int)).toNat = i by omega, if_neg (by omega)]) ?_
    refine list_val h16_3 (w' := w1) (v := .slice (some ⟨kv, ov, none⟩) (ys.length) (cv)) (fun _ => by rw [x_move]; simp [ev_ne, ev_eq, put_sz, hsz, e0, e1, e2, e7, e8]) ?_
    have hb2' : w1.heap[kv]? = some (.cells av Tv fz) := by rw [q3 kv hne]; exact hb2
    obtain ⟨w2, p1, p2, p3, c2, p4, p5, p6⟩ := run_storeCells' (P := P) k (off + i * n) T0 (av.extract ov (ov + ys.length * n)).toList 0 c1 w1 q4 (by simp only [Array.length_toList, hf2]; omega) fly.one
    have osw2 := storeCells_os (P := P) k (off + i * n) T0 (av.extract ov (ov + ys.length * n)).toList 0 c1 w1 w2 q4 (by simp only [Array.length_toList, hf2]; omega) fly.one p1
    refine list_val h16_4 (w' := w2) (v := goInt ys.length) (fun _ => ?_) ?_
    · refine x_copy' (m := ys.length) (dl := xs.length + ys.length - i) (dc := cap - i) (off := off + i * n) (k := k) (cs := av.extract ov (ov + ys.length * n)) hT hce (by omega) (by simp [ev_ne, ev_eq, put_sz, hsz]) (by simp [ev_ne, ev_eq, put_sz, hsz, Builtin.lenOf]) (Nat.min_eq_left (by omega)) ?_ p1
      simp only [ev_eq, put_sz, hsz, Nat.reduceLT, Builtin.firstCells]
      exact run_cells (P := P) hb2' hav
    refine wp_seq (wp_region_lit (l := [o17_0, o17_1]) ?_)
    refine list_val h17_0 (w' := w2) (v := .slice (some ⟨k, off, none⟩) (xs.length + ys.length) (cap)) (fun _ => by rw [x_move]; simp [ev_ne, ev_eq, put_sz, hsz, e0, e1, e2, e7, e8]) ?_
    refine list_val h17_1 (w' := w2) (v := .slice (some ⟨k, off, none⟩) (xs.length + ys.length) (cap)) (fun _ => by rw [x_assign]; simp [ev_ne, ev_eq, put_sz, hsz, e0, e1, e2, e7, e8]) ?_
    refine wp_ret ?_
    have hk2 : ∀ o, o ≠ .lst (.slot 0) → Keep o g w (g.ren (rnL (.slot 0) (.slot 6))) w2 := fun o ho k' b' h1 h2 => by
      have hkk : k' ≠ k := by rintro rfl; exact ho (h1.symm.trans hk)
      exact ⟨by simp only [Gh.ren, h1]; exact rnL_other ho, by rw [p3 k' hkk, q3 k' hkk]; exact h2⟩
    refine fin _ w2 (g.ren (rnL (.slot 0) (.slot 6))) (.slice (some ⟨k, off, none⟩) (xs.length + ys.length) cap) (by simp [put_sz, hsz]) (by simpa [put_defers'] using hdef) (by simp [ev_eq, put_sz, hsz]) ?_ hk2 rfl (by rw [p2, q2]; exact Nat.le_refl _) (osw1.trans osw2)
    rw [← hzl]
    refine ROwn.win flz p4 (by simp [Gh.ren, hk, rnL_same]) (by omega) (by rw [p5, q5]; exact hzz) (fun q hq => ?_) (hk2 _ (by simp)) (fun _ _ h => h)
    rw [hflat q hq]
    rw [hzl, Nat.add_mul] at hq
    rw [p6, q6]
    simp only [Array.length_toList, hf2, htl]
    by_cases z1 : q < i * n
    · rw [if_neg (by omega), if_neg (by omega), if_pos z1]
    · by_cases z2 : q < i * n + ys.length * n
      · rw [if_pos (by omega), if_neg z1, if_pos z2, Array.getElem?_toList, Array.getElem?_extract, if_pos (by omega)]
        congr 1; omega
      · rw [if_neg (by omega), if_pos (by omega), if_neg z1, if_neg z2, Array.getElem?_toList, Array.getElem?_extract, if_pos (by omega)]
        congr 1; omega
  · rw [show decide ((xs.length : Int) + (ys.length : Int) > (cap : Int)) = true by simp; omega]
    refine wp_seq (wp_region_lit (l := [o9_0, o9_1, o9_2, o9_3, o9_4, o9_5, o9_6, o9_7, o9_8, o9_9]) ?_)
    refine list_val h9_0 (w' := w) (v := .slice (some ⟨k, off, none⟩) (xs.length) (cap)) (fun _ => by rw [x_move]; simp [ev_ne, ev_eq, put_sz, hsz, e0, e1, e2, e7, e8]) ?_
    refine list_val h9_1 (w' := w) (v := .int .i64 (i : Int)) (fun _ => by rw [x_move]; simp [ev_ne, ev_eq, put_sz, hsz, e0, e1, e2, e7, e8]) ?_
    refine list_val h9_2 (w' := w) (v := .slice (some ⟨k, off, none⟩) (i) (cap)) (fun _ => by rw [x_sliceHi (k := k) (off := off) (len := xs.length) (cap := cap) (i := (i : Int)) hT hn0 (by simp [ev_ne, ev_eq, put_sz, hsz, e0, e1, e2, e7, e8]) (by simp [ev_ne, ev_eq, put_sz, hsz, e0, e1, e2, e7, e8]) (by omega) (by omega)]; rw [show ((i : Int)).toNat = i by omega]) ?_
    refine list_val h9_3 (w' := w) (v := .int .i64 (xs.length : Int)) (fun _ => by rw [x_move]; simp [ev_ne, ev_eq, put_sz, hsz, e0, e1, e2, e7, e8]) ?_
    refine list_val h9_4 (w' := w) (v := .int .i64 (ys.length : Int)) (fun _ => by rw [x_move]; simp [ev_ne, ev_eq, put_sz, hsz, e0, e1, e2, e7, e8]) ?_
    refine list_val h9_5 (w' := w) (v := .int .i64 ((xs.length : Int) + (ys.length : Int))) (fun _ => x_add (by simp [ev_ne, ev_eq, put_sz, hsz, e0, e1, e2, e7, e8]) (by simp [ev_ne, ev_eq, put_sz, hsz, e0, e1, e2, e7, e8]) (by constructor <;> omega)) ?_
    refine list_val h9_6 (w' := w) (v := .int .i64 (i : Int)) (fun _ => by rw [x_move]; simp [ev_ne, ev_eq, put_sz, hsz, e0, e1, e2, e7, e8]) ?_
    refine list_val h9_7 (w' := w) (v := .int .i64 ((xs.length + ys.length - i : Nat) : Int)) (fun _ => by rw [x_sub (p := (xs.length : Int) + (ys.length : Int)) (q := (i : Int)) (by simp [ev_ne, ev_eq, put_sz, hsz, e0, e1, e2, e7, e8]) (by simp [ev_ne, ev_eq, put_sz, hsz, e0, e1, e2, e7, e8]) (by constructor <;> omega), show (xs.length : Int) + (ys.length : Int) - (i : Int) = ((xs.length + ys.length - i : Nat) : Int) by omega]) ?_
    generalize hA : (((((((b.put (some 32) (.slice (some ⟨k, off, none⟩) (xs.length) (cap))).put (some 33) (.int .i64 (i : Int))).put (some 34) (.slice (some ⟨k, off, none⟩) (i) (cap))).put (some 35) (.int .i64 (xs.length : Int))).put (some 36) (.int .i64 (ys.length : Int))).put (some 37) (.int .i64 ((xs.length : Int) + (ys.length : Int)))).put (some 38) (.int .i64 (i : Int))).put (some 39) (.int .i64 ((xs.length + ys.length - i : Nat) : Int)) = b2
    have e0' : b2.eval (.tmp 0) = .slice (some ⟨k, off, none⟩) (xs.length) (cap) := by subst hA; simp [ev_ne, ev_eq, put_sz, hsz, e0, e1, e2, e7, e8]
    have e1' : b2.eval (.tmp 1) = .int .i64 (i : Int) := by subst hA; simp [ev_ne, ev_eq, put_sz, hsz, e0, e1, e2, e7, e8]
    have e2' : b2.eval (.tmp 2) = .slice (some ⟨kv, ov, none⟩) (ys.length) (cv) := by subst hA; simp [ev_ne, ev_eq, put_sz, hsz, e0, e1, e2, e7, e8]
    have e7' : b2.eval (.tmp 7) = .int .i64 (ys.length : Int) := by subst hA; simp [ev_ne, ev_eq, put_sz, hsz, e0, e1, e2, e7, e8]
    have e8' : b2.eval (.tmp 8) = .int .i64 (xs.length : Int) := by subst hA; simp [ev_ne, ev_eq, put_sz, hsz, e0, e1, e2, e7, e8]
    have n34' : b2.eval (.tmp 34) = .slice (some ⟨k, off, none⟩) (i) (cap) := by subst hA; simp [ev_ne, ev_eq, put_sz, hsz, e0, e1, e2, e7, e8]
    have n39' : b2.eval (.tmp 39) = .int .i64 ((xs.length + ys.length - i : Nat) : Int) := by subst hA; simp [ev_ne, ev_eq, put_sz, hsz, e0, e1, e2, e7, e8]
    have hsz' : b2.tmps.size = 95 := by subst hA; simp [put_sz, hsz, e0, e1, e2, e7, e8]
    have hdef' : b2.defers = [] := by subst hA; simpa [put_defers'] using hdef
    clear hA hsz hdef e0 e1 e2 e7 e8
    have e0 := e0'
    have e1 := e1'
    have e2 := e2'
    have e7 := e7'
    have e8 := e8'
    have n34 := n34'
    have n39 := n39'
    have hsz := hsz'
    have hdef := hdef'
    clear hsz' hdef' e0' e1' e2' e7' e8' n34' n39'
    have hbd : w.drew.heap[k]? = some (.cells c T0 (0, 0)) := hb
    have hneed : i + (xs.length + ys.length - i) = xs.length + ys.length := by omega
    have hby2 : (xs.length + ys.length) * ti.bytes ≤ 140737488355328 := Nat.le_trans (Nat.mul_le_mul hroom hby) (by decide)
    obtain ⟨gc, hgc, happ⟩ := x_appendMake (P := P) (a := b2) (w := w) (T := T) (I := I) (e := e) (x := .tmp 34) (y := .tmp 39) (m := xs.length + ys.length - i) (sLen := i) (sCap := cap) (base := some ⟨k, off, none⟩) (z := z) (ti := ti) (olds := c.extract off (off + i * n)) n34 n39 hT hI hi hz (by omega) (by
      rw [hsize]
      simp only [Builtin.firstCells]
      exact run_cells (P := P) hbd (by omega)) (by omega) (by omega) (by unfold maxLen; omega) (by rw [hneed]; exact hby2)
    rw [hneed] at hgc happ
    generalize hC : c.extract off (off + i * n) ++ Builtin.zeroCells z.cells (xs.length + ys.length - i) ++ Builtin.zeroCells z.cells (gc - (xs.length + ys.length)) = C0 at happ
    have hC0 : C0.size = gc * n := by
      rw [← hC]
      simp only [Array.size_append, size_zeroCells, hzn, Array.size_extract]
      have h1 : i * n + ((xs.length + ys.length - i) * n + (gc - (xs.length + ys.length)) * n) = gc * n := by
        rw [← Nat.add_mul, ← Nat.add_mul]; congr 1; omega
      omega
    have hCl : ∀ q, q < i * n → C0[q]? = c[off + q]? := fun q hq => by
      rw [← hC, Array.append_assoc, Array.getElem?_append_left (by simp; omega), Array.getElem?_extract, if_pos (by omega)]
    clear hC
    have hK1 : (w.drew.alloc (.cells C0 e)).heap[w.heap.size]? = some (.cells C0 e (0, 0)) := heap_alloc w.drew _
    have hold : ∀ (k' : Nat) (b' : Obj), w.heap[k']? = some b' → k' ≠ w.heap.size ∧ (w.drew.alloc (.cells C0 e)).heap[k']? = some b' := fun k' b' h => ⟨by have := arr_lt h; omega, (Keep.alloc (o' := g.ow k') (g := g) (w := w.drew) (o := .cells C0 e) (t := .free) k' b' rfl h).2⟩
    generalize hW : w.drew.alloc (.cells C0 e) = w1 at happ hK1 hold
    have hw1s : w.heap.size ≤ w1.heap.size := by rw [← hW]; simp
    have hos1 : SameOs w w1 := by rw [← hW]; exact ⟨rfl, rfl⟩
    generalize hKK : w.heap.size = K at happ hK1 hold hw1s
    refine list_val h9_8 (w' := w1) (v := .slice (some ⟨K, 0, none⟩) (xs.length + ys.length) (gc)) (fun ty => happ o9_8 ty) ?_
    refine list_val h9_9 (w' := w1) (v := .slice (some ⟨K, 0, none⟩) (xs.length + ys.length) (gc)) (fun _ => by rw [x_assign]; simp [ev_ne, ev_eq, put_sz, hsz, e0, e1, e2, e7, e8]) ?_
    generalize hA : (b2.put (some 40) (.slice (some ⟨K, 0, none⟩) (xs.length + ys.length) (gc))).put (some 9) (.slice (some ⟨K, 0, none⟩) (xs.length + ys.length) (gc)) = b3
    have e0' : b3.eval (.tmp 0) = .slice (some ⟨k, off, none⟩) (xs.length) (cap) := by subst hA; simp [ev_ne, ev_eq, put_sz, hsz, e0, e1, e2, e7, e8]
    have e1' : b3.eval (.tmp 1) = .int .i64 (i : Int) := by subst hA; simp [ev_ne, ev_eq, put_sz, hsz, e0, e1, e2, e7, e8]
    have e2' : b3.eval (.tmp 2) = .slice (some ⟨kv, ov, none⟩) (ys.length) (cv) := by subst hA; simp [ev_ne, ev_eq, put_sz, hsz, e0, e1, e2, e7, e8]
    have e7' : b3.eval (.tmp 7) = .int .i64 (ys.length : Int) := by subst hA; simp [ev_ne, ev_eq, put_sz, hsz, e0, e1, e2, e7, e8]
    have e8' : b3.eval (.tmp 8) = .int .i64 (xs.length : Int) := by subst hA; simp [ev_ne, ev_eq, put_sz, hsz, e0, e1, e2, e7, e8]
    have e9' : b3.eval (.tmp 9) = .slice (some ⟨K, 0, none⟩) (xs.length + ys.length) (gc) := by subst hA; simp [ev_ne, ev_eq, put_sz, hsz, e0, e1, e2, e7, e8]
    have hsz' : b3.tmps.size = 95 := by subst hA; simp [put_sz, hsz, e0, e1, e2, e7, e8]
    have hdef' : b3.defers = [] := by subst hA; simpa [put_defers'] using hdef
    clear hA hsz hdef e0 e1 e2 e7 e8 n34 n39 happ
    have e0 := e0'
    have e1 := e1'
    have e2 := e2'
    have e7 := e7'
    have e8 := e8'
    have e9 := e9'
    have hsz := hsz'
    have hdef := hdef'
    clear hsz' hdef' e0' e1' e2' e7' e8' e9'
    refine wp_seq (wp_region_lit (l := [o10_0, o10_1, o10_2, o10_3, o10_4]) ?_)
    refine list_val h10_0 (w' := w1) (v := .slice (some ⟨K, 0, none⟩) (xs.length + ys.length) (gc)) (fun _ => by rw [x_move]; simp [ev_ne, ev_eq, put_sz, hsz, e0, e1, e2, e7, e8, e9]) ?_
    refine list_val h10_1 (w' := w1) (v := .int .i64 (i : Int)) (fun _ => by rw [x_move]; simp [ev_ne, ev_eq, put_sz, hsz, e0, e1, e2, e7, e8, e9]) ?_
    refine list_val h10_2 (w' := w1) (v := .slice (some ⟨K, 0 + i * n, none⟩) (xs.length + ys.length - i) (gc - i)) (fun _ => by rw [x_sliceLo (k := K) (off := 0) (len := xs.length + ys.length) (cap := gc) (i := (i : Int)) hT hn0 (by simp [ev_ne, ev_eq, put_sz, hsz, e0, e1, e2, e7, e8, e9]) (by simp [ev_ne, ev_eq, put_sz, hsz, e0, e1, e2, e7, e8, e9]) (by omega) (by omega), hce]; rw [show ((i : Int)).toNat = i by omega, if_neg (by omega)]) ?_
    refine list_val h10_3 (w' := w1) (v := .slice (some ⟨kv, ov, none⟩) (ys.length) (cv)) (fun _ => by rw [x_move]; simp [ev_ne, ev_eq, put_sz, hsz, e0, e1, e2, e7, e8, e9]) ?_
    have hb2' : w1.heap[kv]? = some (.cells av Tv fz) := (hold kv _ hb2).2
    have hKkv : kv ≠ K := (hold kv _ hb2).1
    have hKk : k ≠ K := (hold k _ hb).1
    have hgcn : (xs.length + ys.length) * n ≤ gc * n := Nat.mul_le_mul_right _ hgc
    rw [Nat.add_mul] at hgcn
    obtain ⟨w2, p1, p2, p3, c2, p4, p5, p6⟩ := run_storeCells' (P := P) K (0 + i * n) e (av.extract ov (ov + ys.length * n)).toList 0 C0 w1 hK1 (by simp only [Array.length_toList, hf2]; omega) fly.one
    have osw2 := storeCells_os (P := P) K (0 + i * n) e (av.extract ov (ov + ys.length * n)).toList 0 C0 w1 w2 hK1 (by simp only [Array.length_toList, hf2]; omega) fly.one p1
    refine list_val h10_4 (w' := w2) (v := goInt ys.length) (fun _ => ?_) ?_
    · refine x_copy' (m := ys.length) (dl := xs.length + ys.length - i) (dc := gc - i) (off := 0 + i * n) (k := K) (cs := av.extract ov (ov + ys.length * n)) hT hce (by omega) (by simp [ev_ne, ev_eq, put_sz, hsz]) (by simp [ev_ne, ev_eq, put_sz, hsz, Builtin.lenOf]) (Nat.min_eq_left (by omega)) ?_ p1
      simp only [ev_eq, put_sz, hsz, Nat.reduceLT, Builtin.firstCells]
      exact run_cells (P := P) hb2' hav
    generalize hA : ((((b3.put (some 41) (.slice (some ⟨K, 0, none⟩) (xs.length + ys.length) (gc))).put (some 42) (.int .i64 (i : Int))).put (some 43) (.slice (some ⟨K, 0 + i * n, none⟩) (xs.length + ys.length - i) (gc - i))).put (some 44) (.slice (some ⟨kv, ov, none⟩) (ys.length) (cv))).put (some 45) (goInt ys.length) = b4
    have e0' : b4.eval (.tmp 0) = .slice (some ⟨k, off, none⟩) (xs.length) (cap) := by subst hA; simp [ev_ne, ev_eq, put_sz, hsz, e0, e1, e2, e7, e8, e9]
    have e1' : b4.eval (.tmp 1) = .int .i64 (i : Int) := by subst hA; simp [ev_ne, ev_eq, put_sz, hsz, e0, e1, e2, e7, e8, e9]
    have e2' : b4.eval (.tmp 2) = .slice (some ⟨kv, ov, none⟩) (ys.length) (cv) := by subst hA; simp [ev_ne, ev_eq, put_sz, hsz, e0, e1, e2, e7, e8, e9]
    have e7' : b4.eval (.tmp 7) = .int .i64 (ys.length : Int) := by subst hA; simp [ev_ne, ev_eq, put_sz, hsz, e0, e1, e2, e7, e8, e9]
    have e8' : b4.eval (.tmp 8) = .int .i64 (xs.length : Int) := by subst hA; simp [ev_ne, ev_eq, put_sz, hsz, e0, e1, e2, e7, e8, e9]
    have e9' : b4.eval (.tmp 9) = .slice (some ⟨K, 0, none⟩) (xs.length + ys.length) (gc) := by subst hA; simp [ev_ne, ev_eq, put_sz, hsz, e0, e1, e2, e7, e8, e9]
    have hsz' : b4.tmps.size = 95 := by subst hA; simp [put_sz, hsz, e0, e1, e2, e7, e8, e9]
    have hdef' : b4.defers = [] := by subst hA; simpa [put_defers'] using hdef
    clear hA hsz hdef e0 e1 e2 e7 e8 e9
    have e0 := e0'
    have e1 := e1'
    have e2 := e2'
    have e7 := e7'
    have e8 := e8'
    have e9 := e9'
    have hsz := hsz'
    have hdef := hdef'
    clear hsz' hdef' e0' e1' e2' e7' e8' e9'
    refine wp_seq (wp_region_still_tail (l := [o11_0, o11_1, o11_2, o11_3, o11_4, o11_5, o11_6, o11_7, o11_8]) 8 hm hB11 ?_)
    show wpStill P _ w2.drew (fun a' => wpList P _ _ [o11_8] a' w2.drew) [o11_0, o11_1, o11_2, o11_3, o11_4, o11_5, o11_6, o11_7] b4
    refine still_val h11_0 (v := .slice (some ⟨K, 0, none⟩) (xs.length + ys.length) (gc)) (fun _ => by rw [x_move]; simp [ev_ne, ev_eq, put_sz, hsz, e0, e1, e2, e7, e8, e9]) ?_
    refine still_val h11_1 (v := .int .i64 (i : Int)) (fun _ => by rw [x_move]; simp [ev_ne, ev_eq, put_sz, hsz, e0, e1, e2, e7, e8, e9]) ?_
    refine still_val h11_2 (v := .int .i64 (ys.length : Int)) (fun _ => by rw [x_move]; simp [ev_ne, ev_eq, put_sz, hsz, e0, e1, e2, e7, e8, e9]) ?_
    refine still_val h11_3 (v := .int .i64 ((i : Int) + (ys.length : Int))) (fun _ => x_add (by simp [ev_ne, ev_eq, put_sz, hsz, e0, e1, e2, e7, e8, e9]) (by simp [ev_ne, ev_eq, put_sz, hsz, e0, e1, e2, e7, e8, e9]) (by constructor <;> omega)) ?_
    refine still_val h11_4 (v := .slice (some ⟨K, 0 + (i + ys.length) * n, none⟩) (xs.length + ys.length - (i + ys.length)) (gc - (i + ys.length))) (fun _ => by rw [x_sliceLo (k := K) (off := 0) (len := xs.length + ys.length) (cap := gc) (i := (i : Int) + (ys.length : Int)) hT hn0 (by simp [ev_ne, ev_eq, put_sz, hsz, e0, e1, e2, e7, e8, e9]) (by simp [ev_ne, ev_eq, put_sz, hsz, e0, e1, e2, e7, e8, e9]) (by omega) (by omega), hce]; rw [show ((i : Int) + (ys.length : Int)).toNat = i + ys.length by omega, if_neg (by omega)]) ?_
    refine still_val h11_5 (v := .slice (some ⟨k, off, none⟩) (xs.length) (cap)) (fun _ => by rw [x_move]; simp [ev_ne, ev_eq, put_sz, hsz, e0, e1, e2, e7, e8, e9]) ?_
    refine still_val h11_6 (v := .int .i64 (i : Int)) (fun _ => by rw [x_move]; simp [ev_ne, ev_eq, put_sz, hsz, e0, e1, e2, e7, e8, e9]) ?_
    refine still_val h11_7 (v := .slice (some ⟨k, off + i * n, none⟩) (xs.length - i) (cap - i)) (fun _ => by rw [x_sliceLo (k := k) (off := off) (len := xs.length) (cap := cap) (i := (i : Int)) hT hn0 (by simp [ev_ne, ev_eq, put_sz, hsz, e0, e1, e2, e7, e8, e9]) (by simp [ev_ne, ev_eq, put_sz, hsz, e0, e1, e2, e7, e8, e9]) (by omega) (by omega), hce]; rw [show ((i : Int)).toNat = i by omega, if_neg (by omega)]) ?_
    generalize hA : (((((((b4.put (some 46) (.slice (some ⟨K, 0, none⟩) (xs.length + ys.length) (gc))).put (some 47) (.int .i64 (i : Int))).put (some 48) (.int .i64 (ys.length : Int))).put (some 49) (.int .i64 ((i : Int) + (ys.length : Int)))).put (some 50) (.slice (some ⟨K, 0 + (i + ys.length) * n, none⟩) (xs.length + ys.length - (i + ys.length)) (gc - (i + ys.length)))).put (some 51) (.slice (some ⟨k, off, none⟩) (xs.length) (cap))).put (some 52) (.int .i64 (i : Int))).put (some 53) (.slice (some ⟨k, off + i * n, none⟩) (xs.length - i) (cap - i)) = b5
    have e0' : b5.eval (.tmp 0) = .slice (some ⟨k, off, none⟩) (xs.length) (cap) := by subst hA; simp [ev_ne, ev_eq, put_sz, hsz, e0, e1, e2, e7, e8, e9]
    have e1' : b5.eval (.tmp 1) = .int .i64 (i : Int) := by subst hA; simp [ev_ne, ev_eq, put_sz, hsz, e0, e1, e2, e7, e8, e9]
    have e2' : b5.eval (.tmp 2) = .slice (some ⟨kv, ov, none⟩) (ys.length) (cv) := by subst hA; simp [ev_ne, ev_eq, put_sz, hsz, e0, e1, e2, e7, e8, e9]
    have e7' : b5.eval (.tmp 7) = .int .i64 (ys.length : Int) := by subst hA; simp [ev_ne, ev_eq, put_sz, hsz, e0, e1, e2, e7, e8, e9]
    have e8' : b5.eval (.tmp 8) = .int .i64 (xs.length : Int) := by subst hA; simp [ev_ne, ev_eq, put_sz, hsz, e0, e1, e2, e7, e8, e9]
    have e9' : b5.eval (.tmp 9) = .slice (some ⟨K, 0, none⟩) (xs.length + ys.length) (gc) := by subst hA; simp [ev_ne, ev_eq, put_sz, hsz, e0, e1, e2, e7, e8, e9]
    have n50' : b5.eval (.tmp 50) = .slice (some ⟨K, 0 + (i + ys.length) * n, none⟩) (xs.length + ys.length - (i + ys.length)) (gc - (i + ys.length)) := by subst hA; simp [ev_ne, ev_eq, put_sz, hsz, e0, e1, e2, e7, e8, e9]
    have n53' : b5.eval (.tmp 53) = .slice (some ⟨k, off + i * n, none⟩) (xs.length - i) (cap - i) := by subst hA; simp [ev_ne, ev_eq, put_sz, hsz, e0, e1, e2, e7, e8, e9]
    have hsz' : b5.tmps.size = 95 := by subst hA; simp [put_sz, hsz, e0, e1, e2, e7, e8, e9]
    have hdef' : b5.defers = [] := by subst hA; simpa [put_defers'] using hdef
    clear hA hsz hdef e0 e1 e2 e7 e8 e9
    have e0 := e0'
    have e1 := e1'
    have e2 := e2'
    have e7 := e7'
    have e8 := e8'
    have e9 := e9'
    have n50 := n50'
    have n53 := n53'
    have hsz := hsz'
    have hdef := hdef'
    clear hsz' hdef' e0' e1' e2' e7' e8' e9' n50' n53'
    have hbd2 : w2.drew.heap[k]? = some (.cells c T0 (0, 0)) := by
      show w2.heap[k]? = _
      rw [p3 k hKk]; exact (hold k _ hb).2
    have him : (i + ys.length) * n = i * n + ys.length * n := Nat.add_mul _ _ _
    have htl : (c.extract (off + i * n) (off + i * n + (xs.length - i) * n)).size = (xs.length - i) * n := by simp; omega
    have hone1 : ∀ v ∈ (c.extract (off + i * n) (off + i * n + (xs.length - i) * n)).toList, v.oneCell' = true := by
      have := flx.one
      intro v hv
      refine this v ?_
      simp only [Array.mem_toList_iff, Array.mem_extract_iff_getElem] at hv ⊢
      obtain ⟨q, hq1, rfl⟩ := hv
      exact ⟨i * n + q, by omega, by congr 1; omega⟩
    obtain ⟨w3, q1, q2, q3, c3, q4, q5, q6⟩ := run_storeCells' (P := P) K (0 + (i + ys.length) * n) e (c.extract (off + i * n) (off + i * n + (xs.length - i) * n)).toList 0 c2 w2.drew p4 (by simp only [Array.length_toList, htl]; omega) hone1
    have osw3 := storeCells_os (P := P) K (0 + (i + ys.length) * n) e (c.extract (off + i * n) (off + i * n + (xs.length - i) * n)).toList 0 c2 w2.drew w3 p4 (by simp only [Array.length_toList, htl]; omega) hone1 q1
    refine list_val h11_8 (w' := w3) (v := goInt (xs.length - i : Nat)) (fun _ => ?_) ?_
    · refine x_copy' (m := xs.length - i) (cs := c.extract (off + i * n) (off + i * n + (xs.length - i) * n)) hT hce (by omega) n50 (by rw [n53]; rfl) (by rw [show xs.length + ys.length - (i + ys.length) = xs.length - i by omega]; exact Nat.min_self _) ?_ q1
      rw [n53]
      simp only [Builtin.firstCells]
      exact run_cells (P := P) hbd2 (by omega)
    generalize hA : b5.put (some 54) (goInt (xs.length - i : Nat)) = b6
    have e0' : b6.eval (.tmp 0) = .slice (some ⟨k, off, none⟩) (xs.length) (cap) := by subst hA; simp [ev_ne, ev_eq, put_sz, hsz, e0, e1, e2, e7, e8, e9]
    have e1' : b6.eval (.tmp 1) = .int .i64 (i : Int) := by subst hA; simp [ev_ne, ev_eq, put_sz, hsz, e0, e1, e2, e7, e8, e9]
    have e2' : b6.eval (.tmp 2) = .slice (some ⟨kv, ov, none⟩) (ys.length) (cv) := by subst hA; simp [ev_ne, ev_eq, put_sz, hsz, e0, e1, e2, e7, e8, e9]
    have e7' : b6.eval (.tmp 7) = .int .i64 (ys.length : Int) := by subst hA; simp [ev_ne, ev_eq, put_sz, hsz, e0, e1, e2, e7, e8, e9]
    have e8' : b6.eval (.tmp 8) = .int .i64 (xs.length : Int) := by subst hA; simp [ev_ne, ev_eq, put_sz, hsz, e0, e1, e2, e7, e8, e9]
    have e9' : b6.eval (.tmp 9) = .slice (some ⟨K, 0, none⟩) (xs.length + ys.length) (gc) := by subst hA; simp [ev_ne, ev_eq, put_sz, hsz, e0, e1, e2, e7, e8, e9]
    have hsz' : b6.tmps.size = 95 := by subst hA; simp [put_sz, hsz, e0, e1, e2, e7, e8, e9]
    have hdef' : b6.defers = [] := by subst hA; simpa [put_defers'] using hdef
    clear hA hsz hdef e0 e1 e2 e7 e8 e9 n50 n53
    have e0 := e0'
    have e1 := e1'
    have e2 := e2'
    have e7 := e7'
    have e8 := e8'
    have e9 := e9'
    have hsz := hsz'
    have hdef := hdef'
    clear hsz' hdef' e0' e1' e2' e7' e8' e9'
    refine wp_seq (wp_region_lit (l := [o12_0, o12_1]) ?_)
    refine list_val h12_0 (w' := w3) (v := .slice (some ⟨K, 0, none⟩) (xs.length + ys.length) (gc)) (fun _ => by rw [x_move]; simp [ev_ne, ev_eq, put_sz, hsz, e0, e1, e2, e7, e8, e9]) ?_
    refine list_val h12_1 (w' := w3) (v := .slice (some ⟨K, 0, none⟩) (xs.length + ys.length) (gc)) (fun _ => by rw [x_assign]; simp [ev_ne, ev_eq, put_sz, hsz, e0, e1, e2, e7, e8, e9]) ?_
    refine wp_ret ?_
    have hk3 : ∀ o, Keep o g w (g.upd K (.lst (.slot 6))) w3 := fun o k' b' h1 h2 => by
      obtain ⟨hkk, h3⟩ := hold k' b' h2
      refine ⟨by rw [Gh.upd_other _ _ hkk]; exact h1, ?_⟩
      rw [q3 k' hkk]
      show w2.heap[k']? = _
      rw [p3 k' hkk]; exact h3
    refine fin _ w3 (g.upd K (.lst (.slot 6))) (.slice (some ⟨K, 0, none⟩) (xs.length + ys.length) gc) (by simp [put_sz, hsz]) (by simpa [put_defers'] using hdef) (by simp [ev_eq, put_sz, hsz]) ?_ (fun o _ => hk3 o) rfl (by rw [q2]; show _ ≤ w2.heap.size; rw [p2, hKK]; exact hw1s) (hos1.trans (osw2.trans osw3))
    rw [← hzl]
    refine ROwn.win flz q4 (by simp) (by omega) (by rw [q5, p5, hC0]; omega) (fun q hq => ?_) (hk3 _) (fun _ _ h => h)
    rw [hflat q hq]
    rw [hzl, Nat.add_mul] at hq
    rw [q6, p6]
    simp only [Array.length_toList, hf2, htl]
    by_cases z1 : q < i * n
    · rw [if_neg (by omega), if_neg (by omega), if_pos z1, hCl _ (by omega)]
      congr 1; omega
    · by_cases z2 : q < i * n + ys.length * n
      · rw [if_neg (by omega), if_pos (by omega), if_neg z1, if_pos z2, Array.getElem?_toList, Array.getElem?_extract, if_pos (by omega)]
        congr 1; omega
      · rw [if_pos (by omega), if_neg z1, if_neg z2, Array.getElem?_toList, Array.getElem?_extract, if_pos (by omega)]
        congr 1; omega
end Go.Sh
