/- Contracts of functions over plain data. -/
import Derived.Test.YtjkhgfoecplbgaaGreatS2
import Derived.Lib.Bytealg
import Derived.Sort.Grow
set_option linter.all false
set_option autoImplicit true
set_option relaxedAutoImplicit true
set_option linter.unusedVariables false
set_option linter.unusedSimpArgs false
set_option maxRecDepth 10000
set_option maxHeartbeats 2000000
namespace Go.Sh
theorem sp_one {n t : Nat} {s x : SV} {H : List SObj} (h : (sp n [(6, x)] H).tmps[t]? = some s) : s = .undef ∨ (t = 6 ∧ s = x) := by
  have key : ∀ (n t0 : Nat) (t : Nat) (s : SV), (spL [(6, x)] n t0)[t]? = some s → s = .undef ∨ (t + t0 = 6 ∧ s = x) := by
    intro n
    induction n with
    | zero => intro t0 t s h; simp [spL] at h
    | succ n ih =>
      intro t0 t s h
      simp only [spL] at h
      split at h
      · rename_i e
        cases t with
        | zero => simp at h; exact .inr ⟨by omega, h.symm⟩
        | succ t =>
          simp only [List.getElem?_cons_succ] at h
          refine .inl ?_
          have e2 : ∀ (n t0 t : Nat) (s : SV), (spL [] n t0)[t]? = some s → s = .undef := by
            intro n
            induction n with
            | zero => intro t0 t s h; simp [spL] at h
            | succ n ih => intro t0 t s h; cases t with
              | zero => simp [spL] at h; exact h.symm
              | succ t => simp only [spL, List.getElem?_cons_succ] at h; exact ih _ _ _ h
          exact e2 _ _ _ _ h
      · cases t with
        | zero => simp at h; exact .inl h.symm
        | succ t =>
          simp only [List.getElem?_cons_succ] at h
          rcases ih (t0 + 1) t s h with e | ⟨e1, e2⟩
          · exact .inl e
          · exact .inr ⟨by omega, e2⟩
  rcases key n 0 t s h with e | ⟨e1, e2⟩
  · exact .inl e
  · exact .inr ⟨by omega, e2⟩
theorem x_copy' {P : Program} {a : Act} {w w' : World} {o : Oper} {T T2 e ty : TypeId} {x y : Operand} {k off dl dc m n cnt : Nat} {cs : Array Value} (hu : P.underlying T = some (.slice e)) (hz : P.cellsOf e = n) (hn : n ≠ 0) (hx : a.eval x = .slice (some ⟨k, off, none⟩) dl dc)
    (hl : (Builtin.lenOf (a.eval y)).run P w = .ok m w) (hcnt : Nat.min m dl = cnt) (hc : (Builtin.firstCells n cnt (a.eval y)).run P w = .ok cs w) (hs : (storeCells ⟨k, off, none⟩ cs.toList).run P w = .ok () w') :
    (execOp a.eval { o with op := .call ⟨.builtin .copy, #[x, y], #[T, T2]⟩, type := ty }).run P w = .ok (.value (goInt cnt)) w' := by
  subst hcnt
  exact x_copy hu hz hn hx hl hc hs
theorem SW.ins {P : Program} {T I B e : TypeId} {fo : Nat} {ik : IntKind} {ti : TypeInfo} {z : Value} {zd : D} {n : Nat} {xs ys : List D} {i : Int} {H : List SObj} {Q : Exit → St → Prop} {Z : Code} {i8 i9 i10 i11 i12 i13 i14 i15 i16 i17 : Nat}
    {o8_0 o8_1 o8_2 o8_3 o8_4 o8_5 o9_0 o9_1 o9_2 o9_3 o9_4 o9_5 o9_6 o9_7 o9_8 o9_9 o10_0 o10_1 o10_2 o10_3 o10_4 o11_0 o11_1 o11_2 o11_3 o11_4 o11_5 o11_6 o11_7 o11_8 o12_0 o12_1 o13_0 o13_1 o13_2 o13_3 o13_4 o13_5 o14_0 o14_1 o14_2 o14_3 o14_4 o14_5 o14_6 o14_7 o15_0 o15_1 o15_2 o15_3 o15_4 o15_5 o15_6 o15_7 o15_8 o16_0 o16_1 o16_2 o16_3 o16_4 o17_0 o17_1 : Oper}
    (hT : P.underlying T = some (.slice e)) (hI : P.underlying I = some (.int ik)) (hi : P.info? e = some ti) (hz : ti.zero = some z) (hzd : constD z = some zd) (hzn : z.cells.size = n) (hsize : ti.size = n) (hn : 0 < n) (hby : ti.bytes ≤ 65536)
    (hov : ∀ (args : Array Value) (w : World), (callFunc fo args).run P w = ((Extern.SlicesOverlaps.overlaps #[T, T] #[B] args).run P w).andThen fun v w' => .ok (.value v) w')
    (hm : P.follows .mixedOrders = true) (hB11 : Region.lexTailB .any #[o11_0, o11_1, o11_2, o11_3, o11_4, o11_5, o11_6, o11_7, o11_8] 8 = true) (hB15 : Region.lexTailB .any #[o15_0, o15_1, o15_2, o15_3, o15_4, o15_5, o15_6, o15_7, o15_8] 8 = true)
    (h8_0 : isOp o8_0 (some 26) (.move (.tmp 8)))
    (h8_1 : isOp o8_1 (some 27) (.move (.tmp 7)))
    (h8_2 : isOp o8_2 (some 28) (.binOp .add I (.tmp 26) (.tmp 27) I))
    (h8_3 : isOp o8_3 (some 29) (.move (.tmp 0)))
    (h8_4 : isOp o8_4 (some 30) (.call ⟨.builtin .cap, #[.tmp 29], #[T]⟩))
    (h8_5 : isOp o8_5 (some 31) (.binOp .gtr I (.tmp 28) (.tmp 30) I))
    (h9_0 : isOp o9_0 (some 32) (.move (.tmp 0)))
    (h9_1 : isOp o9_1 (some 33) (.move (.tmp 1)))
    (h9_2 : isOp o9_2 (some 34) (.slice T (.tmp 32) none (some (.tmp 33)) none))
    (h9_3 : isOp o9_3 (some 35) (.move (.tmp 8)))
    (h9_4 : isOp o9_4 (some 36) (.move (.tmp 7)))
    (h9_5 : isOp o9_5 (some 37) (.binOp .add I (.tmp 35) (.tmp 36) I))
    (h9_6 : isOp o9_6 (some 38) (.move (.tmp 1)))
    (h9_7 : isOp o9_7 (some 39) (.binOp .sub I (.tmp 37) (.tmp 38) I))
    (h9_8 : isOp o9_8 (some 40) (.call ⟨.builtin .append, #[.tmp 34, .tmp 39], #[T, I]⟩))
    (h9_9 : isOp o9_9 (some 9) (.assign (.tmp 40)))
    (h10_0 : isOp o10_0 (some 41) (.move (.tmp 9)))
    (h10_1 : isOp o10_1 (some 42) (.move (.tmp 1)))
    (h10_2 : isOp o10_2 (some 43) (.slice T (.tmp 41) (some (.tmp 42)) none none))
    (h10_3 : isOp o10_3 (some 44) (.move (.tmp 2)))
    (h10_4 : isOp o10_4 (some 45) (.call ⟨.builtin .copy, #[.tmp 43, .tmp 44], #[T, T]⟩))
    (h11_0 : isOp o11_0 (some 46) (.move (.tmp 9)))
    (h11_1 : isOp o11_1 (some 47) (.move (.tmp 1)))
    (h11_2 : isOp o11_2 (some 48) (.move (.tmp 7)))
    (h11_3 : isOp o11_3 (some 49) (.binOp .add I (.tmp 47) (.tmp 48) I))
    (h11_4 : isOp o11_4 (some 50) (.slice T (.tmp 46) (some (.tmp 49)) none none))
    (h11_5 : isOp o11_5 (some 51) (.move (.tmp 0)))
    (h11_6 : isOp o11_6 (some 52) (.move (.tmp 1)))
    (h11_7 : isOp o11_7 (some 53) (.slice T (.tmp 51) (some (.tmp 52)) none none))
    (h11_8 : isOp o11_8 (some 54) (.call ⟨.builtin .copy, #[.tmp 50, .tmp 53], #[T, T]⟩))
    (h12_0 : isOp o12_0 (some 55) (.move (.tmp 9)))
    (h12_1 : isOp o12_1 (some 6) (.assign (.tmp 55)))
    (h13_0 : isOp o13_0 (some 56) (.move (.tmp 0)))
    (h13_1 : isOp o13_1 (some 57) (.move (.tmp 8)))
    (h13_2 : isOp o13_2 (some 58) (.move (.tmp 7)))
    (h13_3 : isOp o13_3 (some 59) (.binOp .add I (.tmp 57) (.tmp 58) I))
    (h13_4 : isOp o13_4 (some 60) (.slice T (.tmp 56) none (some (.tmp 59)) none))
    (h13_5 : isOp o13_5 (some 0) (.assign (.tmp 60)))
    (h14_0 : isOp o14_0 (some 61) (.move (.tmp 2)))
    (h14_1 : isOp o14_1 (some 62) (.move (.tmp 0)))
    (h14_2 : isOp o14_2 (some 63) (.move (.tmp 1)))
    (h14_3 : isOp o14_3 (some 64) (.move (.tmp 7)))
    (h14_4 : isOp o14_4 (some 65) (.binOp .add I (.tmp 63) (.tmp 64) I))
    (h14_5 : isOp o14_5 (some 66) (.slice T (.tmp 62) (some (.tmp 65)) none none))
    (h14_6 : isOp o14_6 (some 67) (.call ⟨.value (.func fo), #[.tmp 61, .tmp 66], #[T, T]⟩))
    (h14_7 : isOp o14_7 (some 68) (.unOp .not B (.tmp 67)))
    (h15_0 : isOp o15_0 (some 69) (.move (.tmp 0)))
    (h15_1 : isOp o15_1 (some 70) (.move (.tmp 1)))
    (h15_2 : isOp o15_2 (some 71) (.move (.tmp 7)))
    (h15_3 : isOp o15_3 (some 72) (.binOp .add I (.tmp 70) (.tmp 71) I))
    (h15_4 : isOp o15_4 (some 73) (.slice T (.tmp 69) (some (.tmp 72)) none none))
    (h15_5 : isOp o15_5 (some 74) (.move (.tmp 0)))
    (h15_6 : isOp o15_6 (some 75) (.move (.tmp 1)))
    (h15_7 : isOp o15_7 (some 76) (.slice T (.tmp 74) (some (.tmp 75)) none none))
    (h15_8 : isOp o15_8 (some 77) (.call ⟨.builtin .copy, #[.tmp 73, .tmp 76], #[T, T]⟩))
    (h16_0 : isOp o16_0 (some 78) (.move (.tmp 0)))
    (h16_1 : isOp o16_1 (some 79) (.move (.tmp 1)))
    (h16_2 : isOp o16_2 (some 80) (.slice T (.tmp 78) (some (.tmp 79)) none none))
    (h16_3 : isOp o16_3 (some 81) (.move (.tmp 2)))
    (h16_4 : isOp o16_4 (some 82) (.call ⟨.builtin .copy, #[.tmp 80, .tmp 81], #[T, T]⟩))
    (h17_0 : isOp o17_0 (some 83) (.move (.tmp 0)))
    (h17_1 : isOp o17_1 (some 6) (.assign (.tmp 83)))
    (hc : (decide (0 ≤ i) && decide (i < xs.length) && decide (0 < ys.length) && decide (xs.length + ys.length ≤ room)) = true)
    (hq : Q .ret (sp 95 [(6, .own n (xs.take i.toNat ++ ys ++ xs.drop i.toNat))] H)) :
    SW P true (.seq (.seq (.region i8 #[o8_0, o8_1, o8_2, o8_3, o8_4, o8_5] false) (.cond (.tmp 31) (.seq (.region i9 #[o9_0, o9_1, o9_2, o9_3, o9_4, o9_5, o9_6, o9_7, o9_8, o9_9] false) (.seq (.region i10 #[o10_0, o10_1, o10_2, o10_3, o10_4] false) (.seq (.region i11 #[o11_0, o11_1, o11_2, o11_3, o11_4, o11_5, o11_6, o11_7, o11_8] true) (.seq (.region i12 #[o12_0, o12_1] false) .ret)))) .skip)) (.seq (.region i13 #[o13_0, o13_1, o13_2, o13_3, o13_4, o13_5] false) (.seq (.seq (.region i14 #[o14_0, o14_1, o14_2, o14_3, o14_4, o14_5, o14_6, o14_7] false) (.cond (.tmp 68) (.seq (.region i15 #[o15_0, o15_1, o15_2, o15_3, o15_4, o15_5, o15_6, o15_7, o15_8] true) (.seq (.region i16 #[o16_0, o16_1, o16_2, o16_3, o16_4] false) (.seq (.region i17 #[o17_0, o17_1] false) .ret))) .skip)) Z))) (sp 95 [(0, .own n xs), (1, vI i), (2, .d (.list n ys)), (7, vI ys.length), (8, vI xs.length)] H) Q := by
  intro a w g hr
  simp only [Bool.and_eq_true, decide_eq_true_eq] at hc
  obtain ⟨⟨⟨i0, il⟩, m0⟩, hroom⟩ := hc
  obtain ⟨i, rfl⟩ : ∃ p : Nat, i = (p : Int) := ⟨i.toNat, by omega⟩
  simp only [Int.toNat_natCast] at hq
  have il : i < xs.length := by omega
  unfold room at hroom
  have hce : P.cellsOf e = n := by simp [Program.cellsOf, hi, hsize]
  have hn0 : P.cellsOf e ≠ 0 := by omega
  have hsz : a.tmps.size = 95 := by rw [hr.len]; simp [sp, spL_len]
  have g0 : ROwn g w (.slot 0) (valOf a 0) n xs := hr.tmp 0 (.own n xs) rfl
  have e1 : a.eval (.tmp 1) = .int .i64 (i : Int) := valD_leaf hr (d := .int .i64 (i : Int)) rfl rfl
  have e7 : a.eval (.tmp 7) = .int .i64 (ys.length : Int) := valD_leaf hr (d := .int .i64 (ys.length : Int)) rfl rfl
  have e8 : a.eval (.tmp 8) = .int .i64 (xs.length : Int) := valD_leaf hr (d := .int .i64 (xs.length : Int)) rfl rfl
  rcases g0 with ⟨rfl, -⟩ | ⟨k, off, cap, c, T0, us, hv, hk, hb, hl, hzz, hw, hcc, hrr⟩
  · simp at il
  have e0 : a.eval (.tmp 0) = .slice (some ⟨k, off, none⟩) xs.length cap := hv
  rcases (hr.tmp 2 (.d (.list n ys)) rfl : Rd g w (valOf a 2) (.list n ys)).toList with ⟨rfl, -⟩ | ⟨kv, ov, cv, av, Tv, fz, uv, hv2, hk2, hb2, hl2, hw2, hcc2, hrr2⟩
  · simp at m0
  have e2 : a.eval (.tmp 2) = .slice (some ⟨kv, ov, none⟩) ys.length cv := hv2
  have hkv : g.ow kv = .free := okL_free.1 hk2
  have hne : kv ≠ k := by rintro rfl; rw [hk] at hkv; cases hkv
  have hdef := hr.def0
  have flx := ROwn.flatC (g := g) (w := w) (k := k) (T := T0) (o := .slot 0) hn rfl hl hzz hw hcc hrr
  have hav : ov + ys.length * n ≤ av.size := by
    have hx : ys[ys.length - 1]? = some ys[ys.length - 1] := by simp [m0]
    have hcl := hw2 _ _ hx
    obtain ⟨h1, -⟩ := hcc2 _ _ hx (n - 1) (ys[ys.length - 1].cells[n - 1]'(by omega)) (by simp)
    have := arr_lt h1
    have h2 : ys.length * n = (ys.length - 1) * n + n := by
      obtain ⟨m, hm⟩ : ∃ m, ys.length = m + 1 := ⟨ys.length - 1, by omega⟩
      rw [hm, Nat.add_sub_cancel, Nat.succ_mul]
    omega
  have fly : RFlat g w (av.extract ov (ov + ys.length * n)) n ys := by
    refine ⟨by simp [Nat.min_eq_left hav], hw2, fun p x hx j y hy => ⟨uv p j, ?_, hrr2 p x hx j y hy, (hcc2 p x hx j y hy).2⟩⟩
    have hj : j < n := by rw [← hw2 p x hx]; exact get_lt hy
    have := get_lt hx
    have : (p + 1) * n ≤ ys.length * n := Nat.mul_le_mul_right _ this
    rw [Nat.succ_mul] at this
    rw [Array.getElem?_extract, if_pos (by omega), ← Nat.add_assoc]
    exact (hcc2 p x hx j y hy).1
  have hin : i * n + (xs.length - i) * n = xs.length * n := by rw [← Nat.add_mul]; congr 1; omega
  have hcapn : xs.length * n ≤ cap * n := Nat.mul_le_mul_right _ hl
  have hmn : 0 < ys.length * n := Nat.mul_pos m0 hn
  let zs := xs.take i ++ ys ++ xs.drop i
  have hzl : zs.length = xs.length + ys.length := by simp [zs]; omega
  have flz : RFlat g w ((c.extract off (off + xs.length * n)).extract 0 (i * n) ++ av.extract ov (ov + ys.length * n) ++ (c.extract off (off + xs.length * n)).extract (i * n) (xs.length * n)) n zs := ((flx.take (by omega)).append fly).append (flx.drop (by omega))
  have hf1 : ((c.extract off (off + xs.length * n)).extract 0 (i * n)).size = i * n := by rw [(flx.take (i := i) (by omega)).1, List.length_take, Nat.min_eq_left (by omega)]
  have hf2 : (av.extract ov (ov + ys.length * n)).size = ys.length * n := fly.1
  have hflat : ∀ q, q < zs.length * n → ((c.extract off (off + xs.length * n)).extract 0 (i * n) ++ av.extract ov (ov + ys.length * n) ++ (c.extract off (off + xs.length * n)).extract (i * n) (xs.length * n))[q]? = if q < i * n then c[off + q]? else if q < i * n + ys.length * n then av[ov + (q - i * n)]? else c[off + (q - ys.length * n)]? := fun q hq => by
    rw [hzl, Nat.add_mul] at hq
    have hszF := flx.1
    split
    · rw [Array.append_assoc, Array.getElem?_append_left (by omega), Array.getElem?_extract, if_pos (by omega), Array.getElem?_extract, if_pos (by omega)]
      congr 1; omega
    · split
      · rw [Array.append_assoc, Array.getElem?_append_right (by omega), hf1, Array.getElem?_append_left (by omega), Array.getElem?_extract, if_pos (by omega)]
      · rw [Array.append_assoc, Array.getElem?_append_right (by omega), hf1, Array.getElem?_append_right (by omega), hf2, Array.getElem?_extract, if_pos (by omega), Array.getElem?_extract, if_pos (by omega)]
        congr 1; omega
  have fin : ∀ (a' : Act) (w' : World) (g' : Gh) (v : Value), a'.tmps.size = 95 → a'.defers = [] → a'.eval (.tmp 6) = v → ROwn g' w' (.slot 6) v n zs → (∀ o, o ≠ .lst (.slot 0) → Keep o g w g' w') → g'.ρ = g.ρ → w.heap.size ≤ w'.heap.size → SameOs w w' → ∃ st' g', Q .ret st' ∧ Rel st' a' w' g' ∧ Fr true g w g' w' := fun a' w' g' v h1 h2 h3 h4 h5 h6 h7 h8 => by
    refine ⟨_, g', hq, ⟨by rw [h1]; simp [sp, spL_len], h2, fun t s hs => ?_, ?_⟩, Fr.keepBut (l := .slot 0) (by simp) h7 h5 h6 h8⟩
    · rcases sp_one hs with rfl | ⟨rfl, rfl⟩
      · trivial
      · show ROwn g' w' (.slot 6) (a'.eval (.tmp 6)) n zs
        rw [h3]; exact h4
    · exact hr.hp.keep (fun o ho => h5 o fun e => by subst e; exact ho.elim) (fun _ _ h => by rw [h6]; exact h) (by rw [h6])
  refine wp_seq (wp_seq (wp_region_lit (l := [o8_0, o8_1, o8_2, o8_3, o8_4, o8_5]) ?_))
  refine list_val h8_0 (w' := w) (v := .int .i64 (xs.length : Int)) (fun _ => by rw [x_move]; simp [ev_ne, ev_eq, put_sz, hsz, e0, e1, e2, e7, e8]) ?_
  refine list_val h8_1 (w' := w) (v := .int .i64 (ys.length : Int)) (fun _ => by rw [x_move]; simp [ev_ne, ev_eq, put_sz, hsz, e0, e1, e2, e7, e8]) ?_
  refine list_val h8_2 (w' := w) (v := .int .i64 ((xs.length : Int) + (ys.length : Int))) (fun _ => x_add (by simp [ev_ne, ev_eq, put_sz, hsz, e0, e1, e2, e7, e8]) (by simp [ev_ne, ev_eq, put_sz, hsz, e0, e1, e2, e7, e8]) (by constructor <;> omega)) ?_
  refine list_val h8_3 (w' := w) (v := .slice (some ⟨k, off, none⟩) (xs.length) (cap)) (fun _ => by rw [x_move]; simp [ev_ne, ev_eq, put_sz, hsz, e0, e1, e2, e7, e8]) ?_
  refine list_val h8_4 (w' := w) (v := goInt cap) (fun _ => x_cap (b := some ⟨k, off, none⟩) (n := xs.length) hT (by simp [ev_ne, ev_eq, put_sz, hsz, e0, e1, e2, e7, e8])) ?_
  refine list_val h8_5 (w' := w) (v := .bool (decide ((xs.length : Int) + (ys.length : Int) > (cap : Int)))) (fun _ => x_gtr (by simp [ev_ne, ev_eq, put_sz, hsz, e0, e1, e2, e7, e8]) (by simp [ev_ne, ev_eq, put_sz, hsz]; rfl)) ?_
  generalize hA : (((((a.put (some 26) (.int .i64 (xs.length : Int))).put (some 27) (.int .i64 (ys.length : Int))).put (some 28) (.int .i64 ((xs.length : Int) + (ys.length : Int)))).put (some 29) (.slice (some ⟨k, off, none⟩) (xs.length) (cap))).put (some 30) (goInt cap)).put (some 31) (.bool (decide ((xs.length : Int) + (ys.length : Int) > (cap : Int)))) = b
  have e0' : b.eval (.tmp 0) = .slice (some ⟨k, off, none⟩) (xs.length) (cap) := by subst hA; simp [ev_ne, ev_eq, put_sz, hsz, e0, e1, e2, e7, e8]
  have e1' : b.eval (.tmp 1) = .int .i64 (i : Int) := by subst hA; simp [ev_ne, ev_eq, put_sz, hsz, e0, e1, e2, e7, e8]
  have e2' : b.eval (.tmp 2) = .slice (some ⟨kv, ov, none⟩) (ys.length) (cv) := by subst hA; simp [ev_ne, ev_eq, put_sz, hsz, e0, e1, e2, e7, e8]
  have e7' : b.eval (.tmp 7) = .int .i64 (ys.length : Int) := by subst hA; simp [ev_ne, ev_eq, put_sz, hsz, e0, e1, e2, e7, e8]
  have e8' : b.eval (.tmp 8) = .int .i64 (xs.length : Int) := by subst hA; simp [ev_ne, ev_eq, put_sz, hsz, e0, e1, e2, e7, e8]
  have n31' : b.eval (.tmp 31) = .bool (decide ((xs.length : Int) + (ys.length : Int) > (cap : Int))) := by subst hA; simp [ev_ne, ev_eq, put_sz, hsz, e0, e1, e2, e7, e8]
  have hsz' : b.tmps.size = 95 := by subst hA; simp [put_sz, hsz, e0, e1, e2, e7, e8]
  have hdef' : b.defers = [] := by subst hA; simpa [put_defers'] using hdef
  clear hA hsz hdef e0 e1 e2 e7 e8
  have e0 := e0'
  have e1 := e1'
  have e2 := e2'
  have e7 := e7'
  have e8 := e8'
  have n31 := n31'
  have hsz := hsz'
  have hdef := hdef'
  clear hsz' hdef' e0' e1' e2' e7' e8' n31'
  refine wp_cond n31 ?_
  by_cases hroomy : xs.length + ys.length ≤ cap
  · rw [show decide ((xs.length : Int) + (ys.length : Int) > (cap : Int)) = false by simp; omega]
    refine wp_skip (wp_seq (wp_region_lit (l := [o13_0, o13_1, o13_2, o13_3, o13_4, o13_5]) ?_))
    refine list_val h13_0 (w' := w) (v := .slice (some ⟨k, off, none⟩) (xs.length) (cap)) (fun _ => by rw [x_move]; simp [ev_ne, ev_eq, put_sz, hsz, e0, e1, e2, e7, e8]) ?_
    refine list_val h13_1 (w' := w) (v := .int .i64 (xs.length : Int)) (fun _ => by rw [x_move]; simp [ev_ne, ev_eq, put_sz, hsz, e0, e1, e2, e7, e8]) ?_
    refine list_val h13_2 (w' := w) (v := .int .i64 (ys.length : Int)) (fun _ => by rw [x_move]; simp [ev_ne, ev_eq, put_sz, hsz, e0, e1, e2, e7, e8]) ?_
    refine list_val h13_3 (w' := w) (v := .int .i64 ((xs.length : Int) + (ys.length : Int))) (fun _ => x_add (by simp [ev_ne, ev_eq, put_sz, hsz, e0, e1, e2, e7, e8]) (by simp [ev_ne, ev_eq, put_sz, hsz, e0, e1, e2, e7, e8]) (by constructor <;> omega)) ?_
    refine list_val h13_4 (w' := w) (v := .slice (some ⟨k, off, none⟩) (xs.length + ys.length) (cap)) (fun _ => by rw [x_sliceHi (k := k) (off := off) (len := xs.length) (cap := cap) (i := (xs.length : Int) + (ys.length : Int)) hT hn0 (by simp [ev_ne, ev_eq, put_sz, hsz, e0, e1, e2, e7, e8]) (by simp [ev_ne, ev_eq, put_sz, hsz, e0, e1, e2, e7, e8]) (by omega) (by omega)]; rw [show ((xs.length : Int) + (ys.length : Int)).toNat = xs.length + ys.length by omega]) ?_
    refine list_val h13_5 (w' := w) (v := .slice (some ⟨k, off, none⟩) (xs.length + ys.length) (cap)) (fun _ => by rw [x_assign]; simp [ev_ne, ev_eq, put_sz, hsz, e0, e1, e2, e7, e8]) ?_
    generalize hA : (((((b.put (some 56) (.slice (some ⟨k, off, none⟩) (xs.length) (cap))).put (some 57) (.int .i64 (xs.length : Int))).put (some 58) (.int .i64 (ys.length : Int))).put (some 59) (.int .i64 ((xs.length : Int) + (ys.length : Int)))).put (some 60) (.slice (some ⟨k, off, none⟩) (xs.length + ys.length) (cap))).put (some 0) (.slice (some ⟨k, off, none⟩) (xs.length + ys.length) (cap)) = b2
    have e0' : b2.eval (.tmp 0) = .slice (some ⟨k, off, none⟩) (xs.length + ys.length) (cap) := by subst hA; simp [ev_ne, ev_eq, put_sz, hsz, e0, e1, e2, e7, e8]
    have e1' : b2.eval (.tmp 1) = .int .i64 (i : Int) := by subst hA; simp [ev_ne, ev_eq, put_sz, hsz, e0, e1, e2, e7, e8]
    have e2' : b2.eval (.tmp 2) = .slice (some ⟨kv, ov, none⟩) (ys.length) (cv) := by subst hA; simp [ev_ne, ev_eq, put_sz, hsz, e0, e1, e2, e7, e8]
    have e7' : b2.eval (.tmp 7) = .int .i64 (ys.length : Int) := by subst hA; simp [ev_ne, ev_eq, put_sz, hsz, e0, e1, e2, e7, e8]
    have e8' : b2.eval (.tmp 8) = .int .i64 (xs.length : Int) := by subst hA; simp [ev_ne, ev_eq, put_sz, hsz, e0, e1, e2, e7, e8]
    have hsz' : b2.tmps.size = 95 := by subst hA; simp [put_sz, hsz, e0, e1, e2, e7, e8]
    have hdef' : b2.defers = [] := by subst hA; simpa [put_defers'] using hdef
    clear hA hsz hdef e0 e1 e2 e7 e8
    have e0 := e0'
    have e1 := e1'
    have e2 := e2'
    have e7 := e7'
    have e8 := e8'
    have hsz := hsz'
    have hdef := hdef'
    clear hsz' hdef' e0' e1' e2' e7' e8'
    refine wp_seq (wp_seq (wp_region_lit (l := [o14_0, o14_1, o14_2, o14_3, o14_4, o14_5, o14_6, o14_7]) ?_))
    refine list_val h14_0 (w' := w) (v := .slice (some ⟨kv, ov, none⟩) (ys.length) (cv)) (fun _ => by rw [x_move]; simp [ev_ne, ev_eq, put_sz, hsz, e0, e1, e2, e7, e8]) ?_
    refine list_val h14_1 (w' := w) (v := .slice (some ⟨k, off, none⟩) (xs.length + ys.length) (cap)) (fun _ => by rw [x_move]; simp [ev_ne, ev_eq, put_sz, hsz, e0, e1, e2, e7, e8]) ?_
    refine list_val h14_2 (w' := w) (v := .int .i64 (i : Int)) (fun _ => by rw [x_move]; simp [ev_ne, ev_eq, put_sz, hsz, e0, e1, e2, e7, e8]) ?_
    refine list_val h14_3 (w' := w) (v := .int .i64 (ys.length : Int)) (fun _ => by rw [x_move]; simp [ev_ne, ev_eq, put_sz, hsz, e0, e1, e2, e7, e8]) ?_
    refine list_val h14_4 (w' := w) (v := .int .i64 ((i : Int) + (ys.length : Int))) (fun _ => x_add (by simp [ev_ne, ev_eq, put_sz, hsz, e0, e1, e2, e7, e8]) (by simp [ev_ne, ev_eq, put_sz, hsz, e0, e1, e2, e7, e8]) (by constructor <;> omega)) ?_
    refine list_val h14_5 (w' := w) (v := .slice (some ⟨k, off + (i + ys.length) * n, none⟩) (xs.length + ys.length - (i + ys.length)) (cap - (i + ys.length))) (fun _ => by rw [x_sliceLo (k := k) (off := off) (len := xs.length + ys.length) (cap := cap) (i := (i : Int) + (ys.length : Int)) hT hn0 (by simp [ev_ne, ev_eq, put_sz, hsz, e0, e1, e2, e7, e8]) (by simp [ev_ne, ev_eq, put_sz, hsz, e0, e1, e2, e7, e8]) (by omega) (by omega), hce]; rw [show ((i : Int) + (ys.length : Int)).toNat = i + ys.length by omega, if_neg (by omega)]) ?_
    refine list_val h14_6 (w' := w) (v := .bool false) (fun _ => ?_) ?_
    · have hovr := run_overlaps (P := P) (T := T) (ps := #[T, T]) (rs := #[B]) (ov := ov) (cv := cv) (o2 := off + (i + ys.length) * n) (cb := cap - (i + ys.length)) (m := ys.length) (lb := xs.length + ys.length - (i + ys.length)) rfl hT hn0 hb2 hb hne m0 (by omega) (by omega)
      rw [x_callF, hov]
      simp only [ev_ne (show (66 : Nat) ≠ 61 by decide), ev_ne (show (65 : Nat) ≠ 61 by decide), ev_ne (show (64 : Nat) ≠ 61 by decide), ev_ne (show (63 : Nat) ≠ 61 by decide), ev_ne (show (62 : Nat) ≠ 61 by decide)]
      rw [ev_eq (by omega), ev_eq (by simp only [put_sz]; omega), hovr]
      rfl
    refine list_val h14_7 (w' := w) (v := .bool true) (fun _ => x_not (b := false) (by simp [ev_ne, ev_eq, put_sz, hsz, e0, e1, e2, e7, e8])) ?_
    generalize hA : (((((((b2.put (some 61) (.slice (some ⟨kv, ov, none⟩) (ys.length) (cv))).put (some 62) (.slice (some ⟨k, off, none⟩) (xs.length + ys.length) (cap))).put (some 63) (.int .i64 (i : Int))).put (some 64) (.int .i64 (ys.length : Int))).put (some 65) (.int .i64 ((i : Int) + (ys.length : Int)))).put (some 66) (.slice (some ⟨k, off + (i + ys.length) * n, none⟩) (xs.length + ys.length - (i + ys.length)) (cap - (i + ys.length)))).put (some 67) (.bool false)).put (some 68) (.bool true) = b3
    have e0' : b3.eval (.tmp 0) = .slice (some ⟨k, off, none⟩) (xs.length + ys.length) (cap) := by subst hA; simp [ev_ne, ev_eq, put_sz, hsz, e0, e1, e2, e7, e8]
    have e1' : b3.eval (.tmp 1) = .int .i64 (i : Int) := by subst hA; simp [ev_ne, ev_eq, put_sz, hsz, e0, e1, e2, e7, e8]
    have e2' : b3.eval (.tmp 2) = .slice (some ⟨kv, ov, none⟩) (ys.length) (cv) := by subst hA; simp [ev_ne, ev_eq, put_sz, hsz, e0, e1, e2, e7, e8]
    have e7' : b3.eval (.tmp 7) = .int .i64 (ys.length : Int) := by subst hA; simp [ev_ne, ev_eq, put_sz, hsz, e0, e1, e2, e7, e8]
    have e8' : b3.eval (.tmp 8) = .int .i64 (xs.length : Int) := by subst hA; simp [ev_ne, ev_eq, put_sz, hsz, e0, e1, e2, e7, e8]
    have n68' : b3.eval (.tmp 68) = .bool true := by subst hA; simp [ev_ne, ev_eq, put_sz, hsz, e0, e1, e2, e7, e8]
    have hsz' : b3.tmps.size = 95 := by subst hA; simp [put_sz, hsz, e0, e1, e2, e7, e8]
    have hdef' : b3.defers = [] := by subst hA; simpa [put_defers'] using hdef
    clear hA hsz hdef e0 e1 e2 e7 e8
    have e0 := e0'
    have e1 := e1'
    have e2 := e2'
    have e7 := e7'
    have e8 := e8'
    have n68 := n68'
    have hsz := hsz'
    have hdef := hdef'
    clear hsz' hdef' e0' e1' e2' e7' e8' n68'
    refine wp_cond_true n68 (wp_seq (wp_region_still_tail (l := [o15_0, o15_1, o15_2, o15_3, o15_4, o15_5, o15_6, o15_7, o15_8]) 8 hm hB15 ?_))
    show wpStill P _ w.drew (fun a' => wpList P _ _ [o15_8] a' w.drew) [o15_0, o15_1, o15_2, o15_3, o15_4, o15_5, o15_6, o15_7] b3
    refine still_val h15_0 (v := .slice (some ⟨k, off, none⟩) (xs.length + ys.length) (cap)) (fun _ => by rw [x_move]; simp [ev_ne, ev_eq, put_sz, hsz, e0, e1, e2, e7, e8]) ?_
    refine still_val h15_1 (v := .int .i64 (i : Int)) (fun _ => by rw [x_move]; simp [ev_ne, ev_eq, put_sz, hsz, e0, e1, e2, e7, e8]) ?_
    refine still_val h15_2 (v := .int .i64 (ys.length : Int)) (fun _ => by rw [x_move]; simp [ev_ne, ev_eq, put_sz, hsz, e0, e1, e2, e7, e8]) ?_
    refine still_val h15_3 (v := .int .i64 ((i : Int) + (ys.length : Int))) (fun _ => x_add (by simp [ev_ne, ev_eq, put_sz, hsz, e0, e1, e2, e7, e8]) (by simp [ev_ne, ev_eq, put_sz, hsz, e0, e1, e2, e7, e8]) (by constructor <;> omega)) ?_
    refine still_val h15_4 (v := .slice (some ⟨k, off + (i + ys.length) * n, none⟩) (xs.length + ys.length - (i + ys.length)) (cap - (i + ys.length))) (fun _ => by rw [x_sliceLo (k := k) (off := off) (len := xs.length + ys.length) (cap := cap) (i := (i : Int) + (ys.length : Int)) hT hn0 (by simp [ev_ne, ev_eq, put_sz, hsz, e0, e1, e2, e7, e8]) (by simp [ev_ne, ev_eq, put_sz, hsz, e0, e1, e2, e7, e8]) (by omega) (by omega), hce]; rw [show ((i : Int) + (ys.length : Int)).toNat = i + ys.length by omega, if_neg (by omega)]) ?_
    refine still_val h15_5 (v := .slice (some ⟨k, off, none⟩) (xs.length + ys.length) (cap)) (fun _ => by rw [x_move]; simp [ev_ne, ev_eq, put_sz, hsz, e0, e1, e2, e7, e8]) ?_
    refine still_val h15_6 (v := .int .i64 (i : Int)) (fun _ => by rw [x_move]; simp [ev_ne, ev_eq, put_sz, hsz, e0, e1, e2, e7, e8]) ?_
    refine still_val h15_7 (v := .slice (some ⟨k, off + i * n, none⟩) (xs.length + ys.length - i) (cap - i)) (fun _ => by rw [x_sliceLo (k := k) (off := off) (len := xs.length + ys.length) (cap := cap) (i := (i : Int)) hT hn0 (by simp [ev_ne, ev_eq, put_sz, hsz, e0, e1, e2, e7, e8]) (by simp [ev_ne, ev_eq, put_sz, hsz, e0, e1, e2, e7, e8]) (by omega) (by omega), hce]; rw [show ((i : Int)).toNat = i by omega, if_neg (by omega)]) ?_
    generalize hA : (((((((b3.put (some 69) (.slice (some ⟨k, off, none⟩) (xs.length + ys.length) (cap))).put (some 70) (.int .i64 (i : Int))).put (some 71) (.int .i64 (ys.length : Int))).put (some 72) (.int .i64 ((i : Int) + (ys.length : Int)))).put (some 73) (.slice (some ⟨k, off + (i + ys.length) * n, none⟩) (xs.length + ys.length - (i + ys.length)) (cap - (i + ys.length)))).put (some 74) (.slice (some ⟨k, off, none⟩) (xs.length + ys.length) (cap))).put (some 75) (.int .i64 (i : Int))).put (some 76) (.slice (some ⟨k, off + i * n, none⟩) (xs.length + ys.length - i) (cap - i)) = b4
    have e0' : b4.eval (.tmp 0) = .slice (some ⟨k, off, none⟩) (xs.length + ys.length) (cap) := by subst hA; simp [ev_ne, ev_eq, put_sz, hsz, e0, e1, e2, e7, e8]
    have e1' : b4.eval (.tmp 1) = .int .i64 (i : Int) := by subst hA; simp [ev_ne, ev_eq, put_sz, hsz, e0, e1, e2, e7, e8]
    have e2' : b4.eval (.tmp 2) = .slice (some ⟨kv, ov, none⟩) (ys.length) (cv) := by subst hA; simp [ev_ne, ev_eq, put_sz, hsz, e0, e1, e2, e7, e8]
    have e7' : b4.eval (.tmp 7) = .int .i64 (ys.length : Int) := by subst hA; simp [ev_ne, ev_eq, put_sz, hsz, e0, e1, e2, e7, e8]
    have e8' : b4.eval (.tmp 8) = .int .i64 (xs.length : Int) := by subst hA; simp [ev_ne, ev_eq, put_sz, hsz, e0, e1, e2, e7, e8]
    have n73' : b4.eval (.tmp 73) = .slice (some ⟨k, off + (i + ys.length) * n, none⟩) (xs.length + ys.length - (i + ys.length)) (cap - (i + ys.length)) := by subst hA; simp [ev_ne, ev_eq, put_sz, hsz, e0, e1, e2, e7, e8]
    have n76' : b4.eval (.tmp 76) = .slice (some ⟨k, off + i * n, none⟩) (xs.length + ys.length - i) (cap - i) := by subst hA; simp [ev_ne, ev_eq, put_sz, hsz, e0, e1, e2, e7, e8]
    have hsz' : b4.tmps.size = 95 := by subst hA; simp [put_sz, hsz, e0, e1, e2, e7, e8]
    have hdef' : b4.defers = [] := by subst hA; simpa [put_defers'] using hdef
    clear hA hsz hdef e0 e1 e2 e7 e8
    have e0 := e0'
    have e1 := e1'
    have e2 := e2'
    have e7 := e7'
    have e8 := e8'
    have n73 := n73'
    have n76 := n76'
    have hsz := hsz'
    have hdef := hdef'
    clear hsz' hdef' e0' e1' e2' e7' e8' n73' n76'
    have hbd : w.drew.heap[k]? = some (.cells c T0 (0, 0)) := hb
    have hcapM : (xs.length + ys.length) * n ≤ cap * n := Nat.mul_le_mul_right _ hroomy
    rw [Nat.add_mul] at hcapM
    have him : (i + ys.length) * n = i * n + ys.length * n := Nat.add_mul _ _ _
    have htl : (c.extract (off + i * n) (off + i * n + (xs.length - i) * n)).size = (xs.length - i) * n := by simp; omega
    have hone1 : ∀ v ∈ (c.extract (off + i * n) (off + i * n + (xs.length - i) * n)).toList, v.oneCell' = true := by
      have := flx.one
      intro v hv
      refine this v ?_
      simp only [Array.mem_toList_iff, Array.mem_extract_iff_getElem] at hv ⊢
      obtain ⟨q, hq1, rfl⟩ := hv
      exact ⟨i * n + q, by omega, by congr 1; omega⟩
    obtain ⟨w1, q1, q2, q3, c1, q4, q5, q6⟩ := run_storeCells' (P := P) k (off + (i + ys.length) * n) T0 (c.extract (off + i * n) (off + i * n + (xs.length - i) * n)).toList 0 c w.drew hbd (by simp only [Array.length_toList, htl]; omega) hone1
    have osw1 := storeCells_os (P := P) k (off + (i + ys.length) * n) T0 (c.extract (off + i * n) (off + i * n + (xs.length - i) * n)).toList 0 c w.drew w1 hbd (by simp only [Array.length_toList, htl]; omega) hone1 q1
    refine list_val h15_8 (w' := w1) (v := goInt ((xs.length - i : Nat) : Int).toNat) (fun _ => ?_) ?_
    · rw [Int.toNat_natCast]
      refine x_copy' (m := xs.length + ys.length - i) (cs := c.extract (off + i * n) (off + i * n + (xs.length - i) * n)) hT hce (by omega) n73 (by rw [n76]; rfl) (by rw [show xs.length + ys.length - (i + ys.length) = xs.length - i by omega]; exact Nat.min_eq_right (by omega)) ?_ q1
      rw [n76]
      simp only [Builtin.firstCells]
      exact run_cells (P := P) hbd (by omega)
    generalize hA : b4.put (some 77) (goInt ((xs.length - i : Nat) : Int).toNat) = b5
    have e0' : b5.eval (.tmp 0) = .slice (some ⟨k, off, none⟩) (xs.length + ys.length) (cap) := by subst hA; simp [ev_ne, ev_eq, put_sz, hsz, e0, e1, e2, e7, e8]
    have e1' : b5.eval (.tmp 1) = .int .i64 (i : Int) := by subst hA; simp [ev_ne, ev_eq, put_sz, hsz, e0, e1, e2, e7, e8]
    have e2' : b5.eval (.tmp 2) = .slice (some ⟨kv, ov, none⟩) (ys.length) (cv) := by subst hA; simp [ev_ne, ev_eq, put_sz, hsz, e0, e1, e2, e7, e8]
    have e7' : b5.eval (.tmp 7) = .int .i64 (ys.length : Int) := by subst hA; simp [ev_ne, ev_eq, put_sz, hsz, e0, e1, e2, e7, e8]
    have e8' : b5.eval (.tmp 8) = .int .i64 (xs.length : Int) := by subst hA; simp [ev_ne, ev_eq, put_sz, hsz, e0, e1, e2, e7, e8]
    have hsz' : b5.tmps.size = 95 := by subst hA; simp [put_sz, hsz]
    have hdef' : b5.defers = [] := by subst hA; simpa [put_defers'] using hdef
    clear hA hsz hdef e0 e1 e2 e7 e8
    have e0 := e0'
    have e1 := e1'
    have e2 := e2'
    have e7 := e7'
    have e8 := e8'
    have hsz := hsz'
    have hdef := hdef'
    refine wp_seq (wp_region_lit (l := [o16_0, o16_1, o16_2, o16_3, o16_4]) ?_)
    refine list_val h16_0 (w' := w1) (v := .slice (some ⟨k, off, none⟩) (xs.length + ys.length) (cap)) (fun _ => by rw [x_move]; simp [ev_ne, ev_eq, put_sz, hsz, e0, e1, e2, e7, e8]) ?_
    refine list_val h16_1 (w' := w1) (v := .int .i64 (i : Int)) (fun _ => by rw [x_move]; simp [ev_ne, ev_eq, put_sz, hsz, e0, e1, e2, e7, e8]) ?_
    refine list_val h16_2 (w' := w1) (v := .slice (some ⟨k, off + i * n, none⟩) (xs.length + ys.length - i) (cap - i)) (fun _ => by rw [x_sliceLo (k := k) (off := off) (len := xs.length + ys.length) (cap := cap) (i := (i : Int)) hT hn0 (by simp [ev_ne, ev_eq, put_sz, hsz, e0, e1, e2, e7, e8]) (by simp [ev_ne, ev_eq, put_sz, hsz, e0, e1, e2, e7, e8]) (by omega) (by omega), hce]; rw [show ((i : Int)).toNat = i by omega, if_neg (by omega)]) ?_
    refine list_val h16_3 (w' := w1) (v := .slice (some ⟨kv, ov, none⟩) (ys.length) (cv)) (fun _ => by rw [x_move]; simp [ev_ne, ev_eq, put_sz, hsz, e0, e1, e2, e7, e8]) ?_
    have hb2' : w1.heap[kv]? = some (.cells av Tv fz) := by rw [q3 kv hne]; exact hb2
    obtain ⟨w2, p1, p2, p3, c2, p4, p5, p6⟩ := run_storeCells' (P := P) k (off + i * n) T0 (av.extract ov (ov + ys.length * n)).toList 0 c1 w1 q4 (by simp only [Array.length_toList, hf2]; omega) fly.one
    have osw2 := storeCells_os (P := P) k (off + i * n) T0 (av.extract ov (ov + ys.length * n)).toList 0 c1 w1 w2 q4 (by simp only [Array.length_toList, hf2]; omega) fly.one p1
    refine list_val h16_4 (w' := w2) (v := goInt ys.length) (fun _ => ?_) ?_
    · refine x_copy' (m := ys.length) (dl := xs.length + ys.length - i) (dc := cap - i) (off := off + i * n) (k := k) (cs := av.extract ov (ov + ys.length * n)) hT hce (by omega) (by simp [ev_ne, ev_eq, put_sz, hsz]) (by simp [ev_ne, ev_eq, put_sz, hsz, Builtin.lenOf]) (Nat.min_eq_left (by omega)) ?_ p1
      simp only [ev_eq, put_sz, hsz, Nat.reduceLT, Builtin.firstCells]
      exact run_cells (P := P) hb2' hav
    refine wp_seq (wp_region_lit (l := [o17_0, o17_1]) ?_)
    refine list_val h17_0 (w' := w2) (v := .slice (some ⟨k, off, none⟩) (xs.length + ys.length) (cap)) (fun _ => by rw [x_move]; simp [ev_ne, ev_eq, put_sz, hsz, e0, e1, e2, e7, e8]) ?_
    refine list_val h17_1 (w' := w2) (v := .slice (some ⟨k, off, none⟩) (xs.length + ys.length) (cap)) (fun _ => by rw [x_assign]; simp [ev_ne, ev_eq, put_sz, hsz, e0, e1, e2, e7, e8]) ?_
    refine wp_ret ?_
    have hk2 : ∀ o, o ≠ .lst (.slot 0) → Keep o g w (g.ren (rnL (.slot 0) (.slot 6))) w2 := fun o ho k' b' h1 h2 => by
      have hkk : k' ≠ k := by rintro rfl; exact ho (h1.symm.trans hk)
      exact ⟨by simp only [Gh.ren, h1]; exact rnL_other ho, by rw [p3 k' hkk, q3 k' hkk]; exact h2⟩
    refine fin _ w2 (g.ren (rnL (.slot 0) (.slot 6))) (.slice (some ⟨k, off, none⟩) (xs.length + ys.length) cap) (by simp [put_sz, hsz]) (by simpa [put_defers'] using hdef) (by simp [ev_eq, put_sz, hsz]) ?_ hk2 rfl (by rw [p2, q2]; exact Nat.le_refl _) (osw1.trans osw2)
    rw [← hzl]
    refine ROwn.win flz p4 (by simp [Gh.ren, hk, rnL_same]) (by omega) (by rw [p5, q5]; exact hzz) (fun q hq => ?_) (hk2 _ (by simp)) (fun _ _ h => h)
    rw [hflat q hq]
    rw [hzl, Nat.add_mul] at hq
    rw [p6, q6]
    simp only [Array.length_toList, hf2, htl]
    by_cases z1 : q < i * n
    · rw [if_neg (by omega), if_neg (by omega), if_pos z1]
    · by_cases z2 : q < i * n + ys.length * n
      · rw [if_pos (by omega), if_neg z1, if_pos z2, Array.getElem?_toList, Array.getElem?_extract, if_pos (by omega)]
        congr 1; omega
      · rw [if_neg (by omega), if_pos (by omega), if_neg z1, if_neg z2, Array.getElem?_toList, Array.getElem?_extract, if_pos (by omega)]
        congr 1; omega
  · rw [show decide ((xs.length : Int) + (ys.length : Int) > (cap : Int)) = true by simp; omega]
    refine wp_seq (wp_region_lit (l := [o9_0, o9_1, o9_2, o9_3, o9_4, o9_5, o9_6, o9_7, o9_8, o9_9]) ?_)
    refine list_val h9_0 (w' := w) (v := .slice (some ⟨k, off, none⟩) (xs.length) (cap)) (fun _ => by rw [x_move]; simp [ev_ne, ev_eq, put_sz, hsz, e0, e1, e2, e7, e8]) ?_
    refine list_val h9_1 (w' := w) (v := .int .i64 (i : Int)) (fun _ => by rw [x_move]; simp [ev_ne, ev_eq, put_sz, hsz, e0, e1, e2, e7, e8]) ?_
    refine list_val h9_2 (w' := w) (v := .slice (some ⟨k, off, none⟩) (i) (cap)) (fun _ => by rw [x_sliceHi (k := k) (off := off) (len := xs.length) (cap := cap) (i := (i : Int)) hT hn0 (by simp [ev_ne, ev_eq, put_sz, hsz, e0, e1, e2, e7, e8]) (by simp [ev_ne, ev_eq, put_sz, hsz, e0, e1, e2, e7, e8]) (by omega) (by omega)]; rw [show ((i : Int)).toNat = i by omega]) ?_
    refine list_val h9_3 (w' := w) (v := .int .i64 (xs.length : Int)) (fun _ => by rw [x_move]; simp [ev_ne, ev_eq, put_sz, hsz, e0, e1, e2, e7, e8]) ?_
    refine list_val h9_4 (w' := w) (v := .int .i64 (ys.length : Int)) (fun _ => by rw [x_move]; simp [ev_ne, ev_eq, put_sz, hsz, e0, e1, e2, e7, e8]) ?_
    refine list_val h9_5 (w' := w) (v := .int .i64 ((xs.length : Int) + (ys.length : Int))) (fun _ => x_add (by simp [ev_ne, ev_eq, put_sz, hsz, e0, e1, e2, e7, e8]) (by simp [ev_ne, ev_eq, put_sz, hsz, e0, e1, e2, e7, e8]) (by constructor <;> omega)) ?_
    refine list_val h9_6 (w' := w) (v := .int .i64 (i : Int)) (fun _ => by rw [x_move]; simp [ev_ne, ev_eq, put_sz, hsz, e0, e1, e2, e7, e8]) ?_
    refine list_val h9_7 (w' := w) (v := .int .i64 ((xs.length + ys.length - i : Nat) : Int)) (fun _ => by rw [x_sub (p := (xs.length : Int) + (ys.length : Int)) (q := (i : Int)) (by simp [ev_ne, ev_eq, put_sz, hsz, e0, e1, e2, e7, e8]) (by simp [ev_ne, ev_eq, put_sz, hsz, e0, e1, e2, e7, e8]) (by constructor <;> omega), show (xs.length : Int) + (ys.length : Int) - (i : Int) = ((xs.length + ys.length - i : Nat) : Int) by omega]) ?_
    generalize hA : (((((((b.put (some 32) (.slice (some ⟨k, off, none⟩) (xs.length) (cap))).put (some 33) (.int .i64 (i : Int))).put (some 34) (.slice (some ⟨k, off, none⟩) (i) (cap))).put (some 35) (.int .i64 (xs.length : Int))).put (some 36) (.int .i64 (ys.length : Int))).put (some 37) (.int .i64 ((xs.length : Int) + (ys.length : Int)))).put (some 38) (.int .i64 (i : Int))).put (some 39) (.int .i64 ((xs.length + ys.length - i : Nat) : Int)) = b2
    have e0' : b2.eval (.tmp 0) = .slice (some ⟨k, off, none⟩) (xs.length) (cap) := by subst hA; simp [ev_ne, ev_eq, put_sz, hsz, e0, e1, e2, e7, e8]
    have e1' : b2.eval (.tmp 1) = .int .i64 (i : Int) := by subst hA; simp [ev_ne, ev_eq, put_sz, hsz, e0, e1, e2, e7, e8]
    have e2' : b2.eval (.tmp 2) = .slice (some ⟨kv, ov, none⟩) (ys.length) (cv) := by subst hA; simp [ev_ne, ev_eq, put_sz, hsz, e0, e1, e2, e7, e8]
    have e7' : b2.eval (.tmp 7) = .int .i64 (ys.length : Int) := by subst hA; simp [ev_ne, ev_eq, put_sz, hsz, e0, e1, e2, e7, e8]
    have e8' : b2.eval (.tmp 8) = .int .i64 (xs.length : Int) := by subst hA; simp [ev_ne, ev_eq, put_sz, hsz, e0, e1, e2, e7, e8]
    have n34' : b2.eval (.tmp 34) = .slice (some ⟨k, off, none⟩) (i) (cap) := by subst hA; simp [ev_ne, ev_eq, put_sz, hsz, e0, e1, e2, e7, e8]
    have n39' : b2.eval (.tmp 39) = .int .i64 ((xs.length + ys.length - i : Nat) : Int) := by subst hA; simp [ev_ne, ev_eq, put_sz, hsz, e0, e1, e2, e7, e8]
    have hsz' : b2.tmps.size = 95 := by subst hA; simp [put_sz, hsz, e0, e1, e2, e7, e8]
    have hdef' : b2.defers = [] := by subst hA; simpa [put_defers'] using hdef
    clear hA hsz hdef e0 e1 e2 e7 e8
    have e0 := e0'
    have e1 := e1'
    have e2 := e2'
    have e7 := e7'
    have e8 := e8'
    have n34 := n34'
    have n39 := n39'
    have hsz := hsz'
    have hdef := hdef'
    clear hsz' hdef' e0' e1' e2' e7' e8' n34' n39'
    have hbd : w.drew.heap[k]? = some (.cells c T0 (0, 0)) := hb
    have hneed : i + (xs.length + ys.length - i) = xs.length + ys.length := by omega
    have hby2 : (xs.length + ys.length) * ti.bytes ≤ 140737488355328 := Nat.le_trans (Nat.mul_le_mul hroom hby) (by decide)
    obtain ⟨gc, hgc, happ⟩ := x_appendMake (P := P) (a := b2) (w := w) (T := T) (I := I) (e := e) (x := .tmp 34) (y := .tmp 39) (m := xs.length + ys.length - i) (sLen := i) (sCap := cap) (base := some ⟨k, off, none⟩) (z := z) (ti := ti) (olds := c.extract off (off + i * n)) n34 n39 hT hI hi hz (by omega) (by
      rw [hsize]
      simp only [Builtin.firstCells]
      exact run_cells (P := P) hbd (by omega)) (by omega) (by omega) (by unfold maxLen; omega) (by rw [hneed]; exact hby2)
    rw [hneed] at hgc happ
    generalize hC : c.extract off (off + i * n) ++ Builtin.zeroCells z.cells (xs.length + ys.length - i) ++ Builtin.zeroCells z.cells (gc - (xs.length + ys.length)) = C0 at happ
    have hC0 : C0.size = gc * n := by
      rw [← hC]
      simp only [Array.size_append, size_zeroCells, hzn, Array.size_extract]
      have h1 : i * n + ((xs.length + ys.length - i) * n + (gc - (xs.length + ys.length)) * n) = gc * n := by
        rw [← Nat.add_mul, ← Nat.add_mul]; congr 1; omega
      omega
    have hCl : ∀ q, q < i * n → C0[q]? = c[off + q]? := fun q hq => by
      rw [← hC, Array.append_assoc, Array.getElem?_append_left (by simp; omega), Array.getElem?_extract, if_pos (by omega)]
    clear hC
    have hK1 : (w.drew.alloc (.cells C0 e)).heap[w.heap.size]? = some (.cells C0 e (0, 0)) := heap_alloc w.drew _
    have hold : ∀ (k' : Nat) (b' : Obj), w.heap[k']? = some b' → k' ≠ w.heap.size ∧ (w.drew.alloc (.cells C0 e)).heap[k']? = some b' := fun k' b' h => ⟨by have := arr_lt h; omega, (Keep.alloc (o' := g.ow k') (g := g) (w := w.drew) (o := .cells C0 e) (t := .free) k' b' rfl h).2⟩
    generalize hW : w.drew.alloc (.cells C0 e) = w1 at happ hK1 hold
    have hw1s : w.heap.size ≤ w1.heap.size := by rw [← hW]; simp
    have hos1 : SameOs w w1 := by rw [← hW]; exact ⟨rfl, rfl⟩
    generalize hKK : w.heap.size = K at happ hK1 hold hw1s
    refine list_val h9_8 (w' := w1) (v := .slice (some ⟨K, 0, none⟩) (xs.length + ys.length) (gc)) (fun ty => happ o9_8 ty) ?_
    refine list_val h9_9 (w' := w1) (v := .slice (some ⟨K, 0, none⟩) (xs.length + ys.length) (gc)) (fun _ => by rw [x_assign]; simp [ev_ne, ev_eq, put_sz, hsz, e0, e1, e2, e7, e8]) ?_
    generalize hA : (b2.put (some 40) (.slice (some ⟨K, 0, none⟩) (xs.length + ys.length) (gc))).put (some 9) (.slice (some ⟨K, 0, none⟩) (xs.length + ys.length) (gc)) = b3
    have e0' : b3.eval (.tmp 0) = .slice (some ⟨k, off, none⟩) (xs.length) (cap) := by subst hA; simp [ev_ne, ev_eq, put_sz, hsz, e0, e1, e2, e7, e8]
    have e1' : b3.eval (.tmp 1) = .int .i64 (i : Int) := by subst hA; simp [ev_ne, ev_eq, put_sz, hsz, e0, e1, e2, e7, e8]
    have e2' : b3.eval (.tmp 2) = .slice (some ⟨kv, ov, none⟩) (ys.length) (cv) := by subst hA; simp [ev_ne, ev_eq, put_sz, hsz, e0, e1, e2, e7, e8]
    have e7' : b3.eval (.tmp 7) = .int .i64 (ys.length : Int) := by subst hA; simp [ev_ne, ev_eq, put_sz, hsz, e0, e1, e2, e7, e8]
    have e8' : b3.eval (.tmp 8) = .int .i64 (xs.length : Int) := by subst hA; simp [ev_ne, ev_eq, put_sz, hsz, e0, e1, e2, e7, e8]
    have e9' : b3.eval (.tmp 9) = .slice (some ⟨K, 0, none⟩) (xs.length + ys.length) (gc) := by subst hA; simp [ev_ne, ev_eq, put_sz, hsz, e0, e1, e2, e7, e8]
    have hsz' : b3.tmps.size = 95 := by subst hA; simp [put_sz, hsz, e0, e1, e2, e7, e8]
    have hdef' : b3.defers = [] := by subst hA; simpa [put_defers'] using hdef
    clear hA hsz hdef e0 e1 e2 e7 e8 n34 n39 happ
    have e0 := e0'
    have e1 := e1'
    have e2 := e2'
    have e7 := e7'
    have e8 := e8'
    have e9 := e9'
    have hsz := hsz'
    have hdef := hdef'
    clear hsz' hdef' e0' e1' e2' e7' e8' e9'
    refine wp_seq (wp_region_lit (l := [o10_0, o10_1, o10_2, o10_3, o10_4]) ?_)
    refine list_val h10_0 (w' := w1) (v := .slice (some ⟨K, 0, none⟩) (xs.length + ys.length) (gc)) (fun _ => by rw [x_move]; simp [ev_ne, ev_eq, put_sz, hsz, e0, e1, e2, e7, e8, e9]) ?_
    refine list_val h10_1 (w' := w1) (v := .int .i64 (i : Int)) (fun _ => by rw [x_move]; simp [ev_ne, ev_eq, put_sz, hsz, e0, e1, e2, e7, e8, e9]) ?_
    refine list_val h10_2 (w' := w1) (v := .slice (some ⟨K, 0 + i * n, none⟩) (xs.length + ys.length - i) (gc - i)) (fun _ => by rw [x_sliceLo (k := K) (off := 0) (len := xs.length + ys.length) (cap := gc) (i := (i : Int)) hT hn0 (by simp [ev_ne, ev_eq, put_sz, hsz, e0, e1, e2, e7, e8, e9]) (by simp [ev_ne, ev_eq, put_sz, hsz, e0, e1, e2, e7, e8, e9]) (by omega) (by omega), hce]; rw [show ((i : Int)).toNat = i by omega, if_neg (by omega)]) ?_
    refine list_val h10_3 (w' := w1) (v := .slice (some ⟨kv, ov, none⟩) (ys.length) (cv)) (fun _ => by rw [x_move]; simp [ev_ne, ev_eq, put_sz, hsz, e0, e1, e2, e7, e8, e9]) ?_
    have hb2' : w1.heap[kv]? = some (.cells av Tv fz) := (hold kv _ hb2).2
    have hKkv : kv ≠ K := (hold kv _ hb2).1
    have hKk : k ≠ K := (hold k _ hb).1
    have hgcn : (xs.length + ys.length) * n ≤ gc * n := Nat.mul_le_mul_right _ hgc
    rw [Nat.add_mul] at hgcn
    obtain ⟨w2, p1, p2, p3, c2, p4, p5, p6⟩ := run_storeCells' (P := P) K (0 + i * n) e (av.extract ov (ov + ys.length * n)).toList 0 C0 w1 hK1 (by simp only [Array.length_toList, hf2]; omega) fly.one
    have osw2 := storeCells_os (P := P) K (0 + i * n) e (av.extract ov (ov + ys.length * n)).toList 0 C0 w1 w2 hK1 (by simp only [Array.length_toList, hf2]; omega) fly.one p1
    refine list_val h10_4 (w' := w2) (v := goInt ys.length) (fun _ => ?_) ?_
    · refine x_copy' (m := ys.length) (dl := xs.length + ys.length - i) (dc := gc - i) (off := 0 + i * n) (k := K) (cs := av.extract ov (ov + ys.length * n)) hT hce (by omega) (by simp [ev_ne, ev_eq, put_sz, hsz]) (by simp [ev_ne, ev_eq, put_sz, hsz, Builtin.lenOf]) (Nat.min_eq_left (by omega)) ?_ p1
      simp only [ev_eq, put_sz, hsz, Nat.reduceLT, Builtin.firstCells]
      exact run_cells (P := P) hb2' hav
    generalize hA : ((((b3.put (some 41) (.slice (some ⟨K, 0, none⟩) (xs.length + ys.length) (gc))).put (some 42) (.int .i64 (i : Int))).put (some 43) (.slice (some ⟨K, 0 + i * n, none⟩) (xs.length + ys.length - i) (gc - i))).put (some 44) (.slice (some ⟨kv, ov, none⟩) (ys.length) (cv))).put (some 45) (goInt ys.length) = b4
    have e0' : b4.eval (.tmp 0) = .slice (some ⟨k, off, none⟩) (xs.length) (cap) := by subst hA; simp [ev_ne, ev_eq, put_sz, hsz, e0, e1, e2, e7, e8, e9]
    have e1' : b4.eval (.tmp 1) = .int .i64 (i : Int) := by subst hA; simp [ev_ne, ev_eq, put_sz, hsz, e0, e1, e2, e7, e8, e9]
    have e2' : b4.eval (.tmp 2) = .slice (some ⟨kv, ov, none⟩) (ys.length) (cv) := by subst hA; simp [ev_ne, ev_eq, put_sz, hsz, e0, e1, e2, e7, e8, e9]
    have e7' : b4.eval (.tmp 7) = .int .i64 (ys.length : Int) := by subst hA; simp [ev_ne, ev_eq, put_sz, hsz, e0, e1, e2, e7, e8, e9]
    have e8' : b4.eval (.tmp 8) = .int .i64 (xs.length : Int) := by subst hA; simp [ev_ne, ev_eq, put_sz, hsz, e0, e1, e2, e7, e8, e9]
    have e9' : b4.eval (.tmp 9) = .slice (some ⟨K, 0, none⟩) (xs.length + ys.length) (gc) := by subst hA; simp [ev_ne, ev_eq, put_sz, hsz, e0, e1, e2, e7, e8, e9]
    have hsz' : b4.tmps.size = 95 := by subst hA; simp [put_sz, hsz, e0, e1, e2, e7, e8, e9]
    have hdef' : b4.defers = [] := by subst hA; simpa [put_defers'] using hdef
    clear hA hsz hdef e0 e1 e2 e7 e8 e9
    have e0 := e0'
    have e1 := e1'
    have e2 := e2'
    have e7 := e7'
    have e8 := e8'
    have e9 := e9'
    have hsz := hsz'
    have hdef := hdef'
    clear hsz' hdef' e0' e1' e2' e7' e8' e9'
    refine wp_seq (wp_region_still_tail (l := [o11_0, o11_1, o11_2, o11_3, o11_4, o11_5, o11_6, o11_7, o11_8]) 8 hm hB11 ?_)
    show wpStill P _ w2.drew (fun a' => wpList P _ _ [o11_8] a' w2.drew) [o11_0, o11_1, o11_2, o11_3, o11_4, o11_5, o11_6, o11_7] b4
    refine still_val h11_0 (v := .slice (some ⟨K, 0, none⟩) (xs.length + ys.length) (gc)) (fun _ => by rw [x_move]; simp [ev_ne, ev_eq, put_sz, hsz, e0, e1, e2, e7, e8, e9]) ?_
    refine still_val h11_1 (v := .int .i64 (i : Int)) (fun _ => by rw [x_move]; simp [ev_ne, ev_eq, put_sz, hsz, e0, e1, e2, e7, e8, e9]) ?_
    refine still_val h11_2 (v := .int .i64 (ys.length : Int)) (fun _ => by rw [x_move]; simp [ev_ne, ev_eq, put_sz, hsz, e0, e1, e2, e7, e8, e9]) ?_
    refine still_val h11_3 (v := .int .i64 ((i : Int) + (ys.length : Int))) (fun _ => x_add (by simp [ev_ne, ev_eq, put_sz, hsz, e0, e1, e2, e7, e8, e9]) (by simp [ev_ne, ev_eq, put_sz, hsz, e0, e1, e2, e7, e8, e9]) (by constructor <;> omega)) ?_
    refine still_val h11_4 (v := .slice (some ⟨K, 0 + (i + ys.length) * n, none⟩) (xs.length + ys.length - (i + ys.length)) (gc - (i + ys.length))) (fun _ => by rw [x_sliceLo (k := K) (off := 0) (len := xs.length + ys.length) (cap := gc) (i := (i : Int) + (ys.length : Int)) hT hn0 (by simp [ev_ne, ev_eq, put_sz, hsz, e0, e1, e2, e7, e8, e9]) (by simp [ev_ne, ev_eq, put_sz, hsz, e0, e1, e2, e7, e8, e9]) (by omega) (by omega), hce]; rw [show ((i : Int) + (ys.length : Int)).toNat = i + ys.length by omega, if_neg (by omega)]) ?_
    refine still_val h11_5 (v := .slice (some ⟨k, off, none⟩) (xs.length) (cap)) (fun _ => by rw [x_move]; simp [ev_ne, ev_eq, put_sz, hsz, e0, e1, e2, e7, e8, e9]) ?_
    refine still_val h11_6 (v := .int .i64 (i : Int)) (fun _ => by rw [x_move]; simp [ev_ne, ev_eq, put_sz, hsz, e0, e1, e2, e7, e8, e9]) ?_
    refine still_val h11_7 (v := .slice (some ⟨k, off + i * n, none⟩) (xs.length - i) (cap - i)) (fun _ => by rw [x_sliceLo (k := k) (off := off) (len := xs.length) (cap := cap) (i := (i : Int)) hT hn0 (by simp [ev_ne, ev_eq, put_sz, hsz, e0, e1, e2, e7, e8, e9]) (by simp [ev_ne, ev_eq, put_sz, hsz, e0, e1, e2, e7, e8, e9]) (by omega) (by omega), hce]; rw [show ((i : Int)).toNat = i by omega, if_neg (by omega)]) ?_
    generalize hA : (((((((b4.put (some 46) (.slice (some ⟨K, 0, none⟩) (xs.length + ys.length) (gc))).put (some 47) (.int .i64 (i : Int))).put (some 48) (.int .i64 (ys.length : Int))).put (some 49) (.int .i64 ((i : Int) + (ys.length : Int)))).put (some 50) (.slice (some ⟨K, 0 + (i + ys.length) * n, none⟩) (xs.length + ys.length - (i + ys.length)) (gc - (i + ys.length)))).put (some 51) (.slice (some ⟨k, off, none⟩) (xs.length) (cap))).put (some 52) (.int .i64 (i : Int))).put (some 53) (.slice (some ⟨k, off + i * n, none⟩) (xs.length - i) (cap - i)) = b5
    have e0' : b5.eval (.tmp 0) = .slice (some ⟨k, off, none⟩) (xs.length) (cap) := by subst hA; simp [ev_ne, ev_eq, put_sz, hsz, e0, e1, e2, e7, e8, e9]
    have e1' : b5.eval (.tmp 1) = .int .i64 (i : Int) := by subst hA; simp [ev_ne, ev_eq, put_sz, hsz, e0, e1, e2, e7, e8, e9]
    have e2' : b5.eval (.tmp 2) = .slice (some ⟨kv, ov, none⟩) (ys.length) (cv) := by subst hA; simp [ev_ne, ev_eq, put_sz, hsz, e0, e1, e2, e7, e8, e9]
    have e7' : b5.eval (.tmp 7) = .int .i64 (ys.length : Int) := by subst hA; simp [ev_ne, ev_eq, put_sz, hsz, e0, e1, e2, e7, e8, e9]
    have e8' : b5.eval (.tmp 8) = .int .i64 (xs.length : Int) := by subst hA; simp [ev_ne, ev_eq, put_sz, hsz, e0, e1, e2, e7, e8, e9]
    have e9' : b5.eval (.tmp 9) = .slice (some ⟨K, 0, none⟩) (xs.length + ys.length) (gc) := by subst hA; simp [ev_ne, ev_eq, put_sz, hsz, e0, e1, e2, e7, e8, e9]
    have n50' : b5.eval (.tmp 50) = .slice (some ⟨K, 0 + (i + ys.length) * n, none⟩) (xs.length + ys.length - (i + ys.length)) (gc - (i + ys.length)) := by subst hA; simp [ev_ne, ev_eq, put_sz, hsz, e0, e1, e2, e7, e8, e9]
    have n53' : b5.eval (.tmp 53) = .slice (some ⟨k, off + i * n, none⟩) (xs.length - i) (cap - i) := by subst hA; simp [ev_ne, ev_eq, put_sz, hsz, e0, e1, e2, e7, e8, e9]
    have hsz' : b5.tmps.size = 95 := by subst hA; simp [put_sz, hsz, e0, e1, e2, e7, e8, e9]
    have hdef' : b5.defers = [] := by subst hA; simpa [put_defers'] using hdef
    clear hA hsz hdef e0 e1 e2 e7 e8 e9
    have e0 := e0'
    have e1 := e1'
    have e2 := e2'
    have e7 := e7'
    have e8 := e8'
    have e9 := e9'
    have n50 := n50'
    have n53 := n53'
    have hsz := hsz'
    have hdef := hdef'
    clear hsz' hdef' e0' e1' e2' e7' e8' e9' n50' n53'
    have hbd2 : w2.drew.heap[k]? = some (.cells c T0 (0, 0)) := by
      show w2.heap[k]? = _
      rw [p3 k hKk]; exact (hold k _ hb).2
    have him : (i + ys.length) * n = i * n + ys.length * n := Nat.add_mul _ _ _
    have htl : (c.extract (off + i * n) (off + i * n + (xs.length - i) * n)).size = (xs.length - i) * n := by simp; omega
    have hone1 : ∀ v ∈ (c.extract (off + i * n) (off + i * n + (xs.length - i) * n)).toList, v.oneCell' = true := by
      have := flx.one
      intro v hv
      refine this v ?_
      simp only [Array.mem_toList_iff, Array.mem_extract_iff_getElem] at hv ⊢
      obtain ⟨q, hq1, rfl⟩ := hv
      exact ⟨i * n + q, by omega, by congr 1; omega⟩
    obtain ⟨w3, q1, q2, q3, c3, q4, q5, q6⟩ := run_storeCells' (P := P) K (0 + (i + ys.length) * n) e (c.extract (off + i * n) (off + i * n + (xs.length - i) * n)).toList 0 c2 w2.drew p4 (by simp only [Array.length_toList, htl]; omega) hone1
    have osw3 := storeCells_os (P := P) K (0 + (i + ys.length) * n) e (c.extract (off + i * n) (off + i * n + (xs.length - i) * n)).toList 0 c2 w2.drew w3 p4 (by simp only [Array.length_toList, htl]; omega) hone1 q1
    refine list_val h11_8 (w' := w3) (v := goInt (xs.length - i : Nat)) (fun _ => ?_) ?_
    · refine x_copy' (m := xs.length - i) (cs := c.extract (off + i * n) (off + i * n + (xs.length - i) * n)) hT hce (by omega) n50 (by rw [n53]; rfl) (by rw [show xs.length + ys.length - (i + ys.length) = xs.length - i by omega]; exact Nat.min_self _) ?_ q1
      rw [n53]
      simp only [Builtin.firstCells]
      exact run_cells (P := P) hbd2 (by omega)
    generalize hA : b5.put (some 54) (goInt (xs.length - i : Nat)) = b6
    have e0' : b6.eval (.tmp 0) = .slice (some ⟨k, off, none⟩) (xs.length) (cap) := by subst hA; simp [ev_ne, ev_eq, put_sz, hsz, e0, e1, e2, e7, e8, e9]
    have e1' : b6.eval (.tmp 1) = .int .i64 (i : Int) := by subst hA; simp [ev_ne, ev_eq, put_sz, hsz, e0, e1, e2, e7, e8, e9]
    have e2' : b6.eval (.tmp 2) = .slice (some ⟨kv, ov, none⟩) (ys.length) (cv) := by subst hA; simp [ev_ne, ev_eq, put_sz, hsz, e0, e1, e2, e7, e8, e9]
    have e7' : b6.eval (.tmp 7) = .int .i64 (ys.length : Int) := by subst hA; simp [ev_ne, ev_eq, put_sz, hsz, e0, e1, e2, e7, e8, e9]
    have e8' : b6.eval (.tmp 8) = .int .i64 (xs.length : Int) := by subst hA; simp [ev_ne, ev_eq, put_sz, hsz, e0, e1, e2, e7, e8, e9]
    have e9' : b6.eval (.tmp 9) = .slice (some ⟨K, 0, none⟩) (xs.length + ys.length) (gc) := by subst hA; simp [ev_ne, ev_eq, put_sz, hsz, e0, e1, e2, e7, e8, e9]
    have hsz' : b6.tmps.size = 95 := by subst hA; simp [put_sz, hsz, e0, e1, e2, e7, e8, e9]
    have hdef' : b6.defers = [] := by subst hA; simpa [put_defers'] using hdef
    clear hA hsz hdef e0 e1 e2 e7 e8 e9 n50 n53
    have e0 := e0'
    have e1 := e1'
    have e2 := e2'
    have e7 := e7'
    have e8 := e8'
    have e9 := e9'
    have hsz := hsz'
    have hdef := hdef'
    clear hsz' hdef' e0' e1' e2' e7' e8' e9'
    refine wp_seq (wp_region_lit (l := [o12_0, o12_1]) ?_)
    refine list_val h12_0 (w' := w3) (v := .slice (some ⟨K, 0, none⟩) (xs.length + ys.length) (gc)) (fun _ => by rw [x_move]; simp [ev_ne, ev_eq, put_sz, hsz, e0, e1, e2, e7, e8, e9]) ?_
    refine list_val h12_1 (w' := w3) (v := .slice (some ⟨K, 0, none⟩) (xs.length + ys.length) (gc)) (fun _ => by rw [x_assign]; simp [ev_ne, ev_eq, put_sz, hsz, e0, e1, e2, e7, e8, e9]) ?_
    refine wp_ret ?_
    have hk3 : ∀ o, Keep o g w (g.upd K (.lst (.slot 6))) w3 := fun o k' b' h1 h2 => by
      obtain ⟨hkk, h3⟩ := hold k' b' h2
      refine ⟨by rw [Gh.upd_other _ _ hkk]; exact h1, ?_⟩
      rw [q3 k' hkk]
      show w2.heap[k']? = _
      rw [p3 k' hkk]; exact h3
    refine fin _ w3 (g.upd K (.lst (.slot 6))) (.slice (some ⟨K, 0, none⟩) (xs.length + ys.length) gc) (by simp [put_sz, hsz]) (by simpa [put_defers'] using hdef) (by simp [ev_eq, put_sz, hsz]) ?_ (fun o _ => hk3 o) rfl (by rw [q2]; show _ ≤ w2.heap.size; rw [p2, hKK]; exact hw1s) (hos1.trans (osw2.trans osw3))
    rw [← hzl]
    refine ROwn.win flz q4 (by simp) (by omega) (by rw [q5, p5, hC0]; omega) (fun q hq => ?_) (hk3 _) (fun _ _ h => h)
    rw [hflat q hq]
    rw [hzl, Nat.add_mul] at hq
    rw [q6, p6]
    simp only [Array.length_toList, hf2, htl]
    by_cases z1 : q < i * n
    · rw [if_neg (by omega), if_neg (by omega), if_pos z1, hCl _ (by omega)]
      congr 1; omega
    · by_cases z2 : q < i * n + ys.length * n
      · rw [if_neg (by omega), if_pos (by omega), if_neg z1, if_pos z2, Array.getElem?_toList, Array.getElem?_extract, if_pos (by omega)]
        congr 1; omega
      · rw [if_pos (by omega), if_neg z1, if_neg z2, Array.getElem?_toList, Array.getElem?_extract, if_pos (by omega)]
        congr 1; omega
end Go.Sh
set_option linter.unusedVariables false
set_option linter.unusedSimpArgs false
namespace Go.Sh
theorem SW.insM {P : Program} {α : Type} {enc : α → D} {T I B e : TypeId} {fo : Nat} {ik : IntKind} {ti : TypeInfo} {z : Value} {zd : D} {n : Nat} {xs ys : List α} {i : Int} {H : List SObj} {Q : Exit → St → Prop} {Z : Code} {i8 i9 i10 i11 i12 i13 i14 i15 i16 i17 : Nat}
    {o8_0 o8_1 o8_2 o8_3 o8_4 o8_5 o9_0 o9_1 o9_2 o9_3 o9_4 o9_5 o9_6 o9_7 o9_8 o9_9 o10_0 o10_1 o10_2 o10_3 o10_4 o11_0 o11_1 o11_2 o11_3 o11_4 o11_5 o11_6 o11_7 o11_8 o12_0 o12_1 o13_0 o13_1 o13_2 o13_3 o13_4 o13_5 o14_0 o14_1 o14_2 o14_3 o14_4 o14_5 o14_6 o14_7 o15_0 o15_1 o15_2 o15_3 o15_4 o15_5 o15_6 o15_7 o15_8 o16_0 o16_1 o16_2 o16_3 o16_4 o17_0 o17_1 : Oper}
    (hc : (decide (0 ≤ i) && decide (i < xs.length) && decide (0 < ys.length) && decide (xs.length + ys.length ≤ room)) = true)
    (hT : P.underlying T = some (.slice e)) (hI : P.underlying I = some (.int ik)) (hi : P.info? e = some ti) (hz : ti.zero = some z) (hzd : constD z = some zd) (hzn : z.cells.size = n) (hsize : ti.size = n) (hn : 0 < n) (hby : ti.bytes ≤ 65536)
    (hov : ∀ (args : Array Value) (w : World), (callFunc fo args).run P w = ((Extern.SlicesOverlaps.overlaps #[T, T] #[B] args).run P w).andThen fun v w' => .ok (.value v) w')
    (hm : P.follows .mixedOrders = true) (hB11 : Region.lexTailB .any #[o11_0, o11_1, o11_2, o11_3, o11_4, o11_5, o11_6, o11_7, o11_8] 8 = true) (hB15 : Region.lexTailB .any #[o15_0, o15_1, o15_2, o15_3, o15_4, o15_5, o15_6, o15_7, o15_8] 8 = true)
    (h8_0 : isOp o8_0 (some 26) (.move (.tmp 8)))
    (h8_1 : isOp o8_1 (some 27) (.move (.tmp 7)))
    (h8_2 : isOp o8_2 (some 28) (.binOp .add I (.tmp 26) (.tmp 27) I))
    (h8_3 : isOp o8_3 (some 29) (.move (.tmp 0)))
    (h8_4 : isOp o8_4 (some 30) (.call ⟨.builtin .cap, #[.tmp 29], #[T]⟩))
    (h8_5 : isOp o8_5 (some 31) (.binOp .gtr I (.tmp 28) (.tmp 30) I))
    (h9_0 : isOp o9_0 (some 32) (.move (.tmp 0)))
    (h9_1 : isOp o9_1 (some 33) (.move (.tmp 1)))
    (h9_2 : isOp o9_2 (some 34) (.slice T (.tmp 32) none (some (.tmp 33)) none))
    (h9_3 : isOp o9_3 (some 35) (.move (.tmp 8)))
    (h9_4 : isOp o9_4 (some 36) (.move (.tmp 7)))
    (h9_5 : isOp o9_5 (some 37) (.binOp .add I (.tmp 35) (.tmp 36) I))
    (h9_6 : isOp o9_6 (some 38) (.move (.tmp 1)))
    (h9_7 : isOp o9_7 (some 39) (.binOp .sub I (.tmp 37) (.tmp 38) I))
    (h9_8 : isOp o9_8 (some 40) (.call ⟨.builtin .append, #[.tmp 34, .tmp 39], #[T, I]⟩))
    (h9_9 : isOp o9_9 (some 9) (.assign (.tmp 40)))
    (h10_0 : isOp o10_0 (some 41) (.move (.tmp 9)))
    (h10_1 : isOp o10_1 (some 42) (.move (.tmp 1)))
    (h10_2 : isOp o10_2 (some 43) (.slice T (.tmp 41) (some (.tmp 42)) none none))
    (h10_3 : isOp o10_3 (some 44) (.move (.tmp 2)))
    (h10_4 : isOp o10_4 (some 45) (.call ⟨.builtin .copy, #[.tmp 43, .tmp 44], #[T, T]⟩))
    (h11_0 : isOp o11_0 (some 46) (.move (.tmp 9)))
    (h11_1 : isOp o11_1 (some 47) (.move (.tmp 1)))
    (h11_2 : isOp o11_2 (some 48) (.move (.tmp 7)))
    (h11_3 : isOp o11_3 (some 49) (.binOp .add I (.tmp 47) (.tmp 48) I))
    (h11_4 : isOp o11_4 (some 50) (.slice T (.tmp 46) (some (.tmp 49)) none none))
    (h11_5 : isOp o11_5 (some 51) (.move (.tmp 0)))
    (h11_6 : isOp o11_6 (some 52) (.move (.tmp 1)))
    (h11_7 : isOp o11_7 (some 53) (.slice T (.tmp 51) (some (.tmp 52)) none none))
    (h11_8 : isOp o11_8 (some 54) (.call ⟨.builtin .copy, #[.tmp 50, .tmp 53], #[T, T]⟩))
    (h12_0 : isOp o12_0 (some 55) (.move (.tmp 9)))
    (h12_1 : isOp o12_1 (some 6) (.assign (.tmp 55)))
    (h13_0 : isOp o13_0 (some 56) (.move (.tmp 0)))
    (h13_1 : isOp o13_1 (some 57) (.move (.tmp 8)))
    (h13_2 : isOp o13_2 (some 58) (.move (.tmp 7)))
    (h13_3 : isOp o13_3 (some 59) (.binOp .add I (.tmp 57) (.tmp 58) I))
    (h13_4 : isOp o13_4 (some 60) (.slice T (.tmp 56) none (some (.tmp 59)) none))
    (h13_5 : isOp o13_5 (some 0) (.assign (.tmp 60)))
    (h14_0 : isOp o14_0 (some 61) (.move (.tmp 2)))
    (h14_1 : isOp o14_1 (some 62) (.move (.tmp 0)))
    (h14_2 : isOp o14_2 (some 63) (.move (.tmp 1)))
    (h14_3 : isOp o14_3 (some 64) (.move (.tmp 7)))
    (h14_4 : isOp o14_4 (some 65) (.binOp .add I (.tmp 63) (.tmp 64) I))
    (h14_5 : isOp o14_5 (some 66) (.slice T (.tmp 62) (some (.tmp 65)) none none))
    (h14_6 : isOp o14_6 (some 67) (.call ⟨.value (.func fo), #[.tmp 61, .tmp 66], #[T, T]⟩))
    (h14_7 : isOp o14_7 (some 68) (.unOp .not B (.tmp 67)))
    (h15_0 : isOp o15_0 (some 69) (.move (.tmp 0)))
    (h15_1 : isOp o15_1 (some 70) (.move (.tmp 1)))
    (h15_2 : isOp o15_2 (some 71) (.move (.tmp 7)))
    (h15_3 : isOp o15_3 (some 72) (.binOp .add I (.tmp 70) (.tmp 71) I))
    (h15_4 : isOp o15_4 (some 73) (.slice T (.tmp 69) (some (.tmp 72)) none none))
    (h15_5 : isOp o15_5 (some 74) (.move (.tmp 0)))
    (h15_6 : isOp o15_6 (some 75) (.move (.tmp 1)))
    (h15_7 : isOp o15_7 (some 76) (.slice T (.tmp 74) (some (.tmp 75)) none none))
    (h15_8 : isOp o15_8 (some 77) (.call ⟨.builtin .copy, #[.tmp 73, .tmp 76], #[T, T]⟩))
    (h16_0 : isOp o16_0 (some 78) (.move (.tmp 0)))
    (h16_1 : isOp o16_1 (some 79) (.move (.tmp 1)))
    (h16_2 : isOp o16_2 (some 80) (.slice T (.tmp 78) (some (.tmp 79)) none none))
    (h16_3 : isOp o16_3 (some 81) (.move (.tmp 2)))
    (h16_4 : isOp o16_4 (some 82) (.call ⟨.builtin .copy, #[.tmp 80, .tmp 81], #[T, T]⟩))
    (h17_0 : isOp o17_0 (some 83) (.move (.tmp 0)))
    (h17_1 : isOp o17_1 (some 6) (.assign (.tmp 83)))
    (hq : Q .ret (sp 95 [(6, .own n ((xs.take i.toNat ++ ys ++ xs.drop i.toNat).map enc))] H)) :
    SW P true (.seq (.seq (.region i8 #[o8_0, o8_1, o8_2, o8_3, o8_4, o8_5] false) (.cond (.tmp 31) (.seq (.region i9 #[o9_0, o9_1, o9_2, o9_3, o9_4, o9_5, o9_6, o9_7, o9_8, o9_9] false) (.seq (.region i10 #[o10_0, o10_1, o10_2, o10_3, o10_4] false) (.seq (.region i11 #[o11_0, o11_1, o11_2, o11_3, o11_4, o11_5, o11_6, o11_7, o11_8] true) (.seq (.region i12 #[o12_0, o12_1] false) .ret)))) .skip)) (.seq (.region i13 #[o13_0, o13_1, o13_2, o13_3, o13_4, o13_5] false) (.seq (.seq (.region i14 #[o14_0, o14_1, o14_2, o14_3, o14_4, o14_5, o14_6, o14_7] false) (.cond (.tmp 68) (.seq (.region i15 #[o15_0, o15_1, o15_2, o15_3, o15_4, o15_5, o15_6, o15_7, o15_8] true) (.seq (.region i16 #[o16_0, o16_1, o16_2, o16_3, o16_4] false) (.seq (.region i17 #[o17_0, o17_1] false) .ret))) .skip)) Z))) (sp 95 [(0, .own n (xs.map enc)), (1, vI i), (2, .d (.list n (ys.map enc))), (7, vI ys.length), (8, vI xs.length)] H) Q := by
  have := SW.ins (P := P) (xs := xs.map enc) (ys := ys.map enc) (i := i) (H := H) (Q := Q) (Z := Z) (i8 := i8) (i9 := i9) (i10 := i10) (i11 := i11) (i12 := i12) (i13 := i13) (i14 := i14) (i15 := i15) (i16 := i16) (i17 := i17) hT hI hi hz hzd hzn hsize hn hby hov hm hB11 hB15 h8_0 h8_1 h8_2 h8_3 h8_4 h8_5 h9_0 h9_1 h9_2 h9_3 h9_4 h9_5 h9_6 h9_7 h9_8 h9_9 h10_0 h10_1 h10_2 h10_3 h10_4 h11_0 h11_1 h11_2 h11_3 h11_4 h11_5 h11_6 h11_7 h11_8 h12_0 h12_1 h13_0 h13_1 h13_2 h13_3 h13_4 h13_5 h14_0 h14_1 h14_2 h14_3 h14_4 h14_5 h14_6 h14_7 h15_0 h15_1 h15_2 h15_3 h15_4 h15_5 h15_6 h15_7 h15_8 h16_0 h16_1 h16_2 h16_3 h16_4 h17_0 h17_1 (by simpa only [List.length_map] using hc)
  simp only [List.length_map, List.map_append, List.map_take, List.map_drop] at this hq ⊢
  exact this hq
section
variable {P : Program} {pu : Bool} {st : St} {ops : Array Oper} {k m : Nat} {Q : St → Prop}
def sl3At (P : Program) (ops : Array Oper) (k : Nat) (st : St) : Option (Option Tmp × List D × Int × Int × Int) :=
  match opAt ops k st with
  | some o => match o.op with
    | .slice T x (some lo) (some hi) (some mx) => match (match valD st x with | some (.str _) => none | _ => listOf st x), intOf? st lo, intOf? st hi, intOf? st mx with
      | some (_, _, xs), some (_, i), some (_, j), some (_, mm) => if elemW P T != 0 then some (o.dst, xs, i, j, mm) else none
      | _, _, _, _ => none
    | _ => none
  | none => none
theorem BAt.sl3 {α : Type} {enc : α → D} {xs : List α} {d : Option Tmp} {i j mm : Int} (hc : (decide (0 ≤ i) && decide (i ≤ j) && decide (j ≤ mm) && decide (mm ≤ xs.length)) = true) (h : sl3At P ops k st = some (d, xs.map enc, i, j, mm)) : BAt P ops k st d .undef := by
  simp only [Bool.and_eq_true, decide_eq_true_eq] at hc
  obtain ⟨⟨⟨h0, h1⟩, h2⟩, h3⟩ := hc
  unfold sl3At at h
  split at h
  · rename_i o ho
    split at h
    · rename_i T x lo hi mx hop
      split at h
      · rename_i l n xs' ik i' jk j' mk mm' hl hi' hj' hm'
        split at h
        · rename_i hw
          simp only [Option.some.injEq, Prod.mk.injEq] at h
          obtain ⟨rfl, rfl, rfl, rfl, rfl⟩ := h
          obtain ⟨g1, g2⟩ := opAt_inv ho
          refine ⟨o, g1, g2, fun a w g hr => ?_, rfl, rfl⟩
          have hx : listOf st x = some (l, n, xs.map enc) := by
            split at hl
            · cases hl
            · exact hl
          have hL := listOf_sound hr hx
          have ev : ∀ {y : Operand} {kk : IntKind} {q : Int}, intOf? st y = some (kk, q) → a.eval y = .int kk q := fun h => by
            unfold intOf? at h
            split at h
            · rename_i k1 n1 hv1
              cases h
              exact valD_leaf hr hv1 rfl
            · cases h
          have e1 := ev hi'
          have e2 := ev hj'
          have e3 := ev hm'
          obtain ⟨base, len, cap, hv, hlen⟩ : ∃ base len cap, a.eval x = .slice base len cap ∧ xs.length ≤ cap := by
            rcases hL with ⟨hn, b0, cap, hv⟩ | ⟨kb, off, cap, c, T0, fz, us, hv, -, -, hp, -⟩
            · rw [List.map_eq_nil_iff] at hn; subst hn; exact ⟨b0, 0, cap, hv, by simp⟩
            · exact ⟨_, _, cap, hv, by simpa using hp⟩
          unfold elemW at hw
          split at hw
          · rename_i e hu
            have hz : P.cellsOf e ≠ 0 := by simpa using hw
            refine ⟨.slice (if mm'.toNat = i'.toNat + (mm'.toNat - i'.toNat) ∧ mm'.toNat = i'.toNat then base else base.map (·.add (i'.toNat * P.cellsOf e))) (j'.toNat - i'.toNat) (mm'.toNat - i'.toNat), trivial, fun w' _ => ?_⟩
            unfold execOp; rw [hop]
            show (do pure (.value (← Instr.sliceAt T (a.eval x) (some (a.eval lo)) (some (a.eval hi)) (some (a.eval mx)))) : Sem Next).run P w' = _
            have c1 : mm' ≤ (cap : Int) := by omega
            have c2 : 0 ≤ mm' := by omega
            have c3 : 0 ≤ j' := by omega
            have c4 : j' ≤ max mm' 0 := by omega
            have c5 : i' ≤ max j' 0 := by omega
            simp [hv, e1, e2, e3, Instr.sliceAt, Instr.slice, Instr.sliceBounds, Instr.sliceBound, asIntOf, run_underlying hu, c1, c2, c3, c4, c5, h0, sizeOf_ne hz]
            by_cases hq : mm'.toNat = i'.toNat
            · rw [if_pos hq, if_pos ⟨by omega, hq⟩]
            · rw [if_neg hq, if_neg (fun h => hq h.2)]
          · simp at hw
        · cases h
      · cases h
    · cases h
  · cases h
end
def nilB {α ρ : Type} [DecidableEq ρ] (xs : List α) (f : Bool → Option ρ) : Option ρ := bif xs.isEmpty then (if f true = f false then f true else none) else f false
theorem nilB_inv {α ρ : Type} [DecidableEq ρ] {xs : List α} {f : Bool → Option ρ} {r : ρ} (h : nilB xs f = some r) (b : Bool) (hb : b = true → xs = []) : f b = some r := by
  unfold nilB at h
  cases hx : xs.isEmpty with
  | true =>
    rw [hx] at h
    simp only [cond_true] at h
    split at h
    · rename_i e; cases b
      · rw [← e]; exact h
      · exact h
    · cases h
  | false =>
    rw [hx] at h
    cases b with
    | false => exact h
    | true => have := hb rfl; subst this; simp at hx
theorem SW.delM {P : Program} {pu : Bool} {st : St} {α : Type} {enc : α → D} {id id2 : Nat} {o1 o2 o3 o4 o5 o6 o7 o8 p1 p2 p3 p4 p5 p6 : Oper} {Y : Code} {T e : TypeId} {ti : TypeInfo} {z : Value} {zd : D} {n : Nat} {xs : List α} {i j : Int} {Q : Exit → St → Prop} {t1 t2 t3 t4 t5 t6 t7 s a1 a2 a3 u1 u2 u3 u4 u5 : Nat} {st2 : St}
    (hij : (decide (0 ≤ i) && decide (i < j) && decide (j ≤ xs.length) && decide (xs.length ≤ room)) = true)
    (hm : P.follows .mixedOrders = true) (hB : Region.lexTailB .any #[o1, o2, o3, o4, o5, o6, o7, o8] 6 = true)
    (h1 : isOp o1 (some t1) (.move (.tmp s))) (h2 : isOp o2 (some t2) (.move (.tmp a1))) (h3 : isOp o3 (some t3) (.slice T (.tmp t1) none (some (.tmp t2)) none)) (h4 : isOp o4 (some t4) (.move (.tmp s))) (h5 : isOp o5 (some t5) (.move (.tmp a2)))
    (h6 : isOp o6 (some t6) (.slice T (.tmp t4) (some (.tmp t5)) none none)) (h7 : isOp o7 (some t7) (.call ⟨.builtin .append, #[.tmp t3, .tmp t6], #[T, T]⟩)) (h8 : isOp o8 (some s) (.assign (.tmp t7)))
    (k1 : isOp p1 (some u1) (.move (.tmp s))) (k2 : isOp p2 (some u2) (.move (.tmp s))) (k3 : isOp p3 (some u3) (.call ⟨.builtin .len, #[.tmp u2], #[T]⟩)) (k4 : isOp p4 (some u4) (.move (.tmp a3)))
    (k5 : isOp p5 (some u5) (.slice T (.tmp u1) (some (.tmp u3)) (some (.tmp u4)) none)) (k6 : isOp p6 none (.call ⟨.builtin .clear, #[.tmp u5], #[T]⟩))
    (hN : (decide (t1 < st.tmps.length) && decide (t2 < st.tmps.length) && decide (t3 < st.tmps.length) && decide (t4 < st.tmps.length) && decide (t5 < st.tmps.length) && decide (t6 < st.tmps.length) && decide (t7 < st.tmps.length)) = true)
    (hN2 : (decide (u1 < st.tmps.length) && decide (u2 < st.tmps.length) && decide (u3 < st.tmps.length) && decide (u4 < st.tmps.length) && decide (u5 < st.tmps.length)) = true)
    (hd : List.Pairwise (· ≠ ·) [s, a1, a2, t1, t2, t3, t4, t5, t6, t7]) (hd2 : List.Pairwise (· ≠ ·) [s, a3, u1, u2, u3, u4, u5])
    (hT : P.underlying T = some (.slice e)) (hi : P.info? e = some ti) (hz : ti.zero = some z) (hzd : constD z = some zd) (hzn : z.cells.size = n) (hsize : ti.size = n) (hn : 0 < n) (hby : ti.bytes ≤ 65536)
    (hs : st.tmps[s]? = some (.own n (xs.map enc))) (hi1 : valD st (.tmp a1) = some (.int .i64 i)) (hj1 : valD st (.tmp a2) = some (.int .i64 j))
    (hst2 : ((st.junk [t1, t2, t3, t4, t5, t6, t7]).take s).put (some s) (.own n ((xs.take i.toNat ++ xs.drop j.toNat).map enc)) = st2) (h3v : valD st2 (.tmp a3) = some (.int .i64 xs.length))
    (hq : SW P pu Y (st2.junk [u1, u2, u3, u4, u5]) Q) :
    SW P pu (.seq (.region id #[o1, o2, o3, o4, o5, o6, o7, o8] true) (.seq (.region id2 #[p1, p2, p3, p4, p5, p6] false) Y)) st Q :=
  SW.del (xs := xs.map enc) hm hB h1 h2 h3 h4 h5 h6 h7 h8 k1 k2 k3 k4 k5 k6 hN hN2 hd hd2 hT hi hz hzd hzn hsize hn hby hs hi1 hj1 (by simpa only [List.length_map] using hij) (by simpa only [List.map_append, List.map_take, List.map_drop] using hst2) (by rw [List.length_map]; exact h3v) hq
end Go.Sh
set_option linter.unusedVariables false
namespace Go.Sh
theorem PC.of_calls {P : Program} {f : FuncId} {args : List SV} {r : SV} (h : ∀ (w : World) (g : Gh) (vs : Array Value), RArgs g w vs args → Calls P f vs w fun e w' => ∃ v, e = .returned v ∧ w' = w ∧ RRes g w v r) : PC P f args r := by
  intro H w g vs hA hH
  refine (h w g vs hA).mono fun e w' hh => ?_
  obtain ⟨v, rfl, rfl, hr⟩ := hh
  exact ⟨v, g, rfl, hr, hH, Fr.refl _ _ _⟩
theorem RArgs.strs2 {g : Gh} {w : World} {vs : Array Value} {a b : List UInt8} (h : RArgs g w vs [vS a, vS b]) : vs = #[.string (mk a), .string (mk b)] := by
  obtain ⟨h1, h2⟩ := h
  obtain ⟨u0, e0, r0⟩ := h2 0 (vS a) rfl
  obtain ⟨u1, e1, r1⟩ := h2 1 (vS b) rfl
  have r0 : Rd g w u0 (.str a) := r0
  have r1 : Rd g w u1 (.str b) := r1
  cases r0; cases r1
  apply Array.ext_getElem?
  intro i
  match i with
  | 0 => simpa using e0
  | 1 => simpa using e1
  | i + 2 => rw [Array.getElem?_eq_none (by rw [h1]; simp), Array.getElem?_eq_none (by simp)]
def cmpS (fuel : Nat) (a b : List UInt8) : Option Int := some (Lib.compareBytes a b)
theorem cmpS_pc {P : Program} {f fuel : Nat} {a b : List UInt8} {r : Int} (h : cmpS fuel a b = some r)
    (hc : ∀ (a b : ByteArray) (w : World), Calls P f #[.string a, .string b] w fun e w' => e = .returned (.int .i64 (Lib.compareBytes a.data.toList b.data.toList)) ∧ w' = w) : PC P f [vS a, vS b] (vI r) := by
  cases h
  refine PC.of_calls fun w g vs hA => ?_
  rw [hA.strs2]
  refine (hc (mk a) (mk b) w).mono fun e w' hh => ?_
  obtain ⟨rfl, rfl⟩ := hh
  exact ⟨_, rfl, rfl, (.int : Rd g w' _ _)⟩
end Go.Sh
set_option linter.unusedVariables false
set_option linter.unusedSimpArgs false
namespace Go.Sh
section
variable {P : Program} {pu : Bool} {st : St} {ops : Array Oper}
def markL : List Nat → Array Bool → Array Bool
  | [], l => l
  | m :: ms, l => markL ms (l.setIfInBounds m true)
def movesB (ops : Array Oper) : List Nat → Array Bool → Bool
  | [], _ => true
  | m :: ms, l => ((ops[m]?).map isMove).getD false && (Region.ready .any ops l).contains m && Region.free .any ops l m && movesB ops ms (l.setIfInBounds m true)
theorem markL_size : ∀ (ms : List Nat) (l : Array Bool), (markL ms l).size = l.size
  | [], _ => rfl
  | m :: ms, l => by rw [markL, markL_size ms]; simp
theorem markL_mono : ∀ (ms : List Nat) (l : Array Bool) (i : Nat), l.getD i false = true → (markL ms l).getD i false = true
  | [], _, _, h => h
  | m :: ms, l, i, h => markL_mono ms _ i (getD_set_true h)
theorem markL_mem : ∀ (ms : List Nat) (l : Array Bool) (i : Nat), i ∈ ms → i < l.size → (markL ms l).getD i false = true
  | [], _, _, h, _ => by simp at h
  | m :: ms, l, i, h, hi => by
    rcases List.mem_cons.1 h with rfl | h
    · exact markL_mono ms _ i (by simp [hi])
    · exact markL_mem ms _ i h (by simpa using hi)
theorem markL_not : ∀ (ms : List Nat) (l : Array Bool) (i : Nat), i ∉ ms → (markL ms l).getD i true = l.getD i true
  | [], _, _, _ => rfl
  | m :: ms, l, i, h => by
    rw [markL, markL_not ms _ i (fun h' => h (List.mem_cons_of_mem _ h')), getD_set_ne true (fun (e : m = i) => h (by simp [e]))]
theorem markL_closed : ∀ (ms : List Nat) (l : Array Bool), movesB ops ms l = true → (∀ j oj, ops[j]? = some oj → l.getD j false = true → ∀ e ∈ oj.after, Region.binds .any e = true → l.getD e.on false = true) →
    ∀ j oj, ops[j]? = some oj → (markL ms l).getD j false = true → ∀ e ∈ oj.after, Region.binds .any e = true → (markL ms l).getD e.on false = true
  | [], _, _, h => h
  | m :: ms, l, hb, h => by
    simp only [movesB, Bool.and_eq_true] at hb
    refine markL_closed ms _ hb.2 fun j oj hj hl e he hbd => ?_
    obtain ⟨_, om, hom, hall⟩ := mem_ready.1 (by simpa using hb.1.1.2 : m ∈ Region.ready .any ops l)
    by_cases hmj : m = j
    · subst hmj
      have : oj = om := Option.some.inj (hj.symm.trans hom)
      subst this
      exact getD_set_true (hall e he hbd)
    · rw [getD_set_ne false hmj] at hl
      exact getD_set_true (h j oj hj hl e he hbd)
theorem wpAny_moves {R : Act → World → Prop} (hng : ops.all (fun o => o.guard.isNone) = true) (hsel : ∀ (j : Nat) (o : Oper) cs b, ops[j]? = some o → o.op ≠ .select cs b) {hds : List Nat} {Q : Act → Prop} {w : World} {fuel : Nat} :
    ∀ (ms : List Nat) (l : Array Bool) (a : Act), movesB ops ms l = true → (∀ a', wpStill P ops w Q (opsOf ops hds) a' → wpAny P .any ops (NQ R) fuel (markL ms l) a' w) →
      wpStill P ops w Q (opsOf ops (ms ++ hds)) a → wpAny P .any ops (NQ R) (ms.length + fuel) l a w
  | [], l, a, _, hk, h => by simpa [markL] using hk a h
  | m :: ms, l, a, hb, hk, h => by
    simp only [movesB, Bool.and_eq_true] at hb
    obtain ⟨⟨⟨b1, b2⟩, b3⟩, b4⟩ := hb
    have hmr : m ∈ Region.ready .any ops l := by simpa using b2
    obtain ⟨hm0, om, hom, hmall⟩ := mem_ready.1 hmr
    have hop : ∃ x, om.op = .move x := by
      rw [hom] at b1
      simp only [Option.map_some, Option.getD_some] at b1
      unfold isMove at b1
      split at b1
      · exact ⟨_, by assumption⟩
      · cases b1
    obtain ⟨x, hop⟩ := hop
    have hmg : om.guard = none := opsOf_ng hng [m] om (by simp [opsOf, hom])
    have hcons : opsOf ops (m :: ms ++ hds) = om :: opsOf ops (ms ++ hds) := by simp [opsOf, hom]
    rw [hcons] at h
    unfold wpStill at h
    rw [if_pos (wanted_ng hmg _)] at h
    have hexec : (execOp a.eval om).run P w = .ok (.value (a.eval x)) w := by unfold execOp; rw [hop]; rfl
    unfold Oper.still at h
    rw [hexec, Oper.stillUpon_value] at h
    have := wpAny_moves hng hsel ms (l.setIfInBounds m true) _ b4 hk h
    have e : (m :: ms).length + fuel = (ms.length + fuel) + 1 := by simp; omega
    rw [e]
    exact wpAny_move hom hop hmg hsel _ _ a _ (Region.free_spec hom b3) hmr this
def permML (ops : Array Oper) (ms hds : List Nat) (t0 : Nat) (ts : List Nat) : Array Oper := (opsOf ops (ms ++ hds) ++ opsOf ops (t0 :: ts)).toArray
def permMB (ops : Array Oper) (ms hds : List Nat) (t0 : Nat) (ts : List Nat) : Bool :=
  Region.noSelect ops && ops.all (fun o => o.guard.isNone) && movesB ops ms (Array.replicate ops.size false) &&
    sinkH .any ops hds t0 && chainH .any ops t0 ts && hds.all (fun i => !(t0 :: ts).contains i) && ms.all (fun i => !(t0 :: ts).contains i) && decide (ops.size = ms.length + (hds.length + (ts.length + 1))) &&
    (List.range ops.size).all (fun i => hds.contains i || (t0 :: ts).contains i || ms.contains i) && (t0 :: ts).all (fun i => decide (i < ops.size)) && decide ((opsOf ops (ms ++ hds)).length = ms.length + hds.length) &&
    lexHeadH .any ops (t0 :: ts) hds (markL ms (Array.replicate ops.size false))
theorem SW.regionM {id : Nat} {l : List Oper} {Q : Exit → St → Prop} (ms hds : List Nat) (t0 : Nat) (ts : List Nat) (k : Nat) (hk : decide (k = ms.length + hds.length) = true) (hm : P.follows .mixedOrders = true) (hB : permMB l.toArray ms hds t0 ts = true)
    (h : OBk P (permML l.toArray ms hds t0 ts) k 0 st (fun st1 => OWk P pu (permML l.toArray ms hds t0 ts) k st1 (Q .normal))) : SW P pu (.region id l.toArray true) st Q := by
  have hk := of_decide_eq_true hk
  subst hk
  generalize hops : l.toArray = ops at *
  intro a w g hr
  refine Code.wp_mono (Q := NQ fun a' w' => ∃ st' g', Q .normal st' ∧ Rel st' a' w' g' ∧ Fr pu g w g' w') (fun e a' w' hh => by obtain ⟨rfl, hh⟩ := hh; exact hh) ?_
  simp only [permMB, Bool.and_eq_true, decide_eq_true_eq] at hB
  obtain ⟨⟨⟨⟨⟨⟨⟨⟨⟨⟨⟨b1, b2⟩, b3⟩, b6⟩, b7⟩, b8⟩, b9⟩, b10⟩, b11⟩, b12⟩, b13⟩, b14⟩ := hB
  refine wp_region_any hm ?_
  have hms : ∀ i ∈ ms, i ∉ t0 :: ts := fun i hi => by have := List.all_eq_true.1 b9 i hi; simpa using this
  have inv : HInv .any ops hds t0 ts (markL ms (Array.replicate ops.size false)) := by
    refine ⟨by rw [markL_size]; simp, markL_closed ms _ b3 (fun j oj hj hl => by rw [getD_replicate_false] at hl; cases hl), fun t ht => ?_, fun i hi h1 h2 => ?_⟩
    · rw [markL_not ms _ t (fun h => hms t h ht)]
      have := List.all_eq_true.1 b12 t ht
      simp at this
      simp [this]
    · have := List.all_eq_true.1 b11 i (List.mem_range.2 hi)
      simp only [Bool.or_eq_true, List.contains_iff_mem] at this
      rcases this with (h3 | h3) | h3
      · exact absurd h3 h1
      · exact absurd h3 h2
      · exact markL_mem ms _ i h3 (by simpa using hi)
  -- the walk in the other order
  have hl1 : (permML ops ms hds t0 ts).toList.take (ms.length + hds.length) = opsOf ops (ms ++ hds) := by simp only [permML]; rw [List.take_append_of_le_length (by omega), List.take_of_length_le (by omega)]
  have hl2 : (permML ops ms hds t0 ts).toList.drop (ms.length + hds.length) = opsOf ops (t0 :: ts) := by simp only [permML]; rw [← b13, List.drop_left']; rfl
  unfold OBk at h
  rw [List.drop_zero, hl1] at h
  have key := h a w.drew g hr.drew (fun a' => wpList P ops (NQ fun a' w' => ∃ st' g', Q .normal st' ∧ Rel st' a' w' g' ∧ Fr pu g w g' w') (opsOf ops (t0 :: ts)) a' w.drew) (fun st1 a1 g1 q1 r1 f1 => by
    refine wpList_ng (opsOf_ng b2 _) (ops' := permML ops ms hds t0 ts) ?_
    unfold OWk at q1
    rw [hl2] at q1
    exact q1 a1 w.drew g1 r1 _ fun st' a' w' g' q r f => ⟨rfl, st', g', q, r, (Fr.drew.trans (f1 pu)).trans f⟩)
  have key := wpStill_ng (ops := ops) (opsOf_ng b2 (ms ++ hds)) key
  have hsz : ops.size = ms.length + (hds.length + (ts.length + 1)) := b10
  rw [hsz]
  rw [hsz] at inv b14
  refine wpAny_moves b2 (Region.noSelect_spec b1) ms _ a (by rw [← hsz]; exact b3) (fun a' ha' => ?_) key
  refine wpAny_of_headH (hds := hds) (g := ts.length + 1) (fun listed' a' hL => ?_) hds.length _ _ (wpAnyH_lex b1 b6 b7 (fun i hi => by have := List.all_eq_true.1 b8 i hi; simpa using this) hds _ _ (fun _ h => h) inv b14 ha')
  exact wpAny_of_seqH (t0 :: ts) listed' a' _ hL.1 hL.2
end
end Go.Sh
set_option linter.unusedVariables false
namespace Go.Sh
def elemB (P : Program) (T e : TypeId) (n : Nat) : Bool :=
  match P.underlying T, P.info? e with
  | some (.slice e'), some ti => match ti.zero with
    | some z => e' == e && (constD z).isSome && z.cells.size == n && ti.size == n && decide (0 < n) && decide (ti.bytes ≤ 65536)
    | none => false
  | _, _ => false
theorem elemB_spec {P : Program} {T e : TypeId} {n : Nat} (h : elemB P T e n = true) :
    P.underlying T = some (.slice e) ∧ ∃ ti z zd, P.info? e = some ti ∧ ti.zero = some z ∧ constD z = some zd ∧ z.cells.size = n ∧ ti.size = n ∧ 0 < n ∧ ti.bytes ≤ 65536 := by
  unfold elemB at h
  split at h
  · rename_i e' ti hT hi
    split at h
    · rename_i z hz
      simp only [Bool.and_eq_true, decide_eq_true_eq, beq_iff_eq, Option.isSome_iff_exists] at h
      obtain ⟨⟨⟨⟨⟨rfl, zd, hzd⟩, h1⟩, h2⟩, h3⟩, h4⟩ := h
      exact ⟨hT, ti, z, zd, hi, hz, hzd, h1, h2, h3, h4⟩
    · cases h
  · cases h
end Go.Sh
set_option linter.unusedVariables false
set_option linter.unusedSimpArgs false
namespace Go.Sh
section
variable {P : Program}
def KeepsS {α : Type} (P : Program) (m : Sem α) : Prop :=
  ∀ (w w' : World) (x : α) (r : Nat) (c : Array Value) (T : TypeId) (z : Nat × Nat), w.heap[r]? = some (.cells c T z) → m.run P w = .ok x w' → w'.heap[r]? = some (.cells c T z)
theorem KeepsS.pure {α : Type} (x : α) : KeepsS P (Pure.pure x : Sem α) := fun w w' y r c T z h h1 => by
  rw [Sem.run_pure] at h1; cases h1; exact h
theorem KeepsS.halt {α : Type} (hh : Halt) : KeepsS P (Sem.halt hh : Sem α) := fun w w' y r c T z h h1 => by simp [Sem.run] at h1
theorem KeepsS.bind {α β : Type} {m : Sem α} {f : α → Sem β} (h1 : KeepsS P m) (h2 : ∀ x, KeepsS P (f x)) : KeepsS P (m >>= f) := fun w w' y r c T z h h3 => by
  rw [Sem.run_bind] at h3
  cases hm : m.run P w with
  | ok x w1 => rw [hm, Result.andThen_ok] at h3; exact h2 x _ _ _ _ _ _ _ (h1 _ _ _ _ _ _ _ h hm) h3
  | halt y w1 => rw [hm] at h3; cases h3
theorem KeepsS.panic {α : Type} (s : String) : KeepsS P (runtimePanic (.plain s) : Sem α) := fun w w' y r c T z h h1 => by
  unfold runtimePanic at h1
  simp [Sem.run_bind, Go.program, Sem.run, Result.andThen_ok, goPanic] at h1
theorem KeepsS.getObj (r0 : Nat) : KeepsS P (Go.getObj r0) := fun w w' y r c T z h h1 => by
  simp only [Go.getObj, Sem.run] at h1
  split at h1
  · cases h1
  · cases h1; exact h
  · cases h1
theorem KeepsS.setObj (r0 : Nat) (o : Obj) : KeepsS P (Go.setObj r0 o) := fun w w' y r c T z h h1 => by
  simp only [Go.setObj, Sem.run] at h1
  split at h1
  · cases h1
  · rename_i o' hne ho'
    cases h1
    have : r0 ≠ r := by rintro rfl; rw [h] at ho'; cases ho'; exact hne _ _ _ rfl
    simp only [Array.getElem?_setIfInBounds, this, if_false]
    exact h
  · cases h1
theorem KeepsS.choose (q : Question) : KeepsS P (Go.choose q) := fun w w' y r c T z h h1 => by
  simp only [Go.choose, Sem.run] at h1
  split at h1 <;> cases h1 <;> exact h
theorem KeepsS.program : KeepsS P Go.program := fun w w' y r c T z h h1 => by
  simp only [Go.program, Sem.run] at h1
  cases h1; exact h
theorem KeepsS.typeInfo (t : TypeId) : KeepsS P (Go.typeInfo t) := by
  unfold Go.typeInfo
  refine KeepsS.program.bind fun p => ?_
  split
  · exact KeepsS.pure _
  · exact KeepsS.halt _
theorem KeepsS.underlying (t : TypeId) : KeepsS P (Go.underlying t) := by
  unfold Go.underlying
  refine KeepsS.program.bind fun p => ?_
  split
  · exact KeepsS.pure _
  · exact KeepsS.halt _
theorem KeepsS.zeroValue (t : TypeId) : KeepsS P (Go.zeroValue t) := by
  unfold Go.zeroValue
  refine (KeepsS.typeInfo t).bind fun p => ?_
  split
  · exact KeepsS.pure _
  · exact KeepsS.halt _
theorem KeepsS.asInt (v : Value) : KeepsS P (Go.asInt v) := by
  unfold Go.asInt
  refine KeepsS.bind ?_ fun _ => KeepsS.pure _
  unfold asIntOf
  split
  · exact KeepsS.pure _
  · exact KeepsS.halt _
  · exact KeepsS.halt _
theorem KeepsS.load (a : Addr) : KeepsS P (Go.load a) := fun w w' y r c T z h h1 => by
  simp only [Go.load, Sem.run] at h1
  split at h1
  · cases h1; exact h
  · split at h1
    · cases h1; exact h
    · cases h1
theorem KeepsS.loadCellsFrom (a : Addr) : ∀ (n i : Nat) (acc : Array Value), KeepsS P (Go.loadCellsFrom a i n acc)
  | 0, i, acc => KeepsS.pure _
  | n + 1, i, acc => by
    unfold Go.loadCellsFrom
    exact (KeepsS.load _).bind fun v => KeepsS.loadCellsFrom a n _ _
theorem KeepsS.loadAt (t : TypeId) (x : Value) : KeepsS P (Instr.loadAt t x) := by
  unfold Instr.loadAt
  refine KeepsS.bind ?_ fun a => ?_
  · unfold Instr.sureAddr
    split
    · exact KeepsS.pure _
    · exact KeepsS.halt _
  · unfold loadVar
    refine KeepsS.bind ?_ fun b => ?_
    · unfold isAgg
      refine (KeepsS.underlying t).bind fun d => ?_
      split <;> exact KeepsS.pure _
    · split
      · refine KeepsS.bind ?_ fun n => KeepsS.bind (KeepsS.loadCellsFrom _ _ _ _) fun _ => KeepsS.pure _
        unfold sizeOf
        exact (KeepsS.typeInfo t).bind fun _ => KeepsS.pure _
      · exact KeepsS.load _
theorem KeepsS.extract (t : Value) (i : Nat) : KeepsS P (Instr.extract t i) := by
  unfold Instr.extract
  split
  · split
    · exact KeepsS.pure _
    · exact KeepsS.halt _
  · exact KeepsS.halt _
def strKeyB (P : Program) (T : TypeId) : Bool := match P.underlying T with | some (.map k _) => (match P.underlying k with | some .string => true | _ => false) | _ => false
theorem KeepsS.equal {k : TypeId} (hk : P.underlying k = some .string) (x y : Value) : KeepsS P (Op.equal k x y) := fun w w' b r c T z h h1 => by
  unfold Op.equal Op.maxDepth Op.equalIn at h1
  simp only [Sem.run_bind, run_underlying hk, Result.andThen_ok] at h1
  revert h1
  cases x <;> cases y <;> simp (config := { contextual := true }) only [Sem.run_pure, stuck, Sem.run, Result.ok.injEq, reduceCtorEq, false_implies, implies_true, and_imp]
  rintro - rfl
  exact h
theorem KeepsS.findAsking {k : TypeId} (hk : P.underlying k = some .string) (x : Value) : ∀ (es : List MapEntry) (i : Nat), KeepsS P (Instr.findAsking k x es i)
  | [], i => KeepsS.pure _
  | e :: es, i => by
    unfold Instr.findAsking
    refine (KeepsS.equal hk _ _).bind fun b => ?_
    split
    · exact KeepsS.pure _
    · exact KeepsS.findAsking hk x es _
theorem KeepsS.findKey {k : TypeId} (hk : P.underlying k = some .string) (x : Value) (es : List MapEntry) : KeepsS P (Instr.findKey k x es) := by
  unfold Instr.findKey
  refine (KeepsS.underlying k).bind fun d => ?_
  split
  · exact KeepsS.pure _
  · exact KeepsS.findAsking hk x es _
theorem KeepsS.checkKey {k : TypeId} (hk : P.underlying k = some .string) (e : Bool) (n : Nat) (x : Value) : KeepsS P (Instr.checkKey e (n + 1) k x) := fun w w' b r c T z h h1 => by
  unfold Instr.checkKey at h1
  simp only [Sem.run_bind, run_underlying hk, Result.andThen_ok] at h1
  revert h1
  cases x <;> simp only [Sem.run_pure] <;> intro h1 <;> cases h1 <;> exact h
theorem KeepsS.keyThatStays (x y : Value) : KeepsS P (Instr.keyThatStays x y) := by
  unfold Instr.keyThatStays
  split
  · exact KeepsS.pure _
  · refine KeepsS.bind (KeepsS.choose _) fun n => KeepsS.pure _
theorem KeepsS.under {T : TypeId} {d : TypeDesc} (hd : P.underlying T = some d) {α : Type} {f : TypeDesc → Sem α} (h : KeepsS P (f d)) : KeepsS P (Go.underlying T >>= f) := fun w w' y r c T' z h0 h1 => by
  rw [Sem.run_bind, run_underlying hd, Result.andThen_ok] at h1
  exact h _ _ _ _ _ _ _ h0 h1
theorem KeepsS.mapEntry {T : TypeId} (hT : strKeyB P T = true) (m key : Value) : KeepsS P (Instr.mapEntry T m key) := by
  unfold strKeyB at hT
  split at hT
  · rename_i k e hk
    split at hT
    · rename_i hs
      unfold Instr.mapEntry
      refine KeepsS.under hk ?_
      simp only
      split
      · exact KeepsS.panic _
      · refine (KeepsS.getObj _).bind fun o => ?_
        split
        · refine (KeepsS.checkKey hs _ _ _).bind fun _ => (KeepsS.findKey hs _ _).bind fun o' => ?_
          split
          · exact (KeepsS.keyThatStays _ _).bind fun _ => (KeepsS.setObj _ _).bind fun _ => KeepsS.pure _
          · exact (KeepsS.zeroValue _).bind fun _ => (KeepsS.setObj _ _).bind fun _ => KeepsS.pure _
        · exact KeepsS.halt _
      · exact KeepsS.halt _
    · cases hT
  · cases hT
theorem KeepsS.entryStore (T : TypeId) (m s x : Value) : KeepsS P (Instr.entryStore T m s x) := by
  unfold Instr.entryStore
  split
  · refine (KeepsS.getObj _).bind fun o => ?_
    split
    · refine (KeepsS.asInt _).bind fun _ => ?_
      split
      · exact KeepsS.setObj _ _
      · exact KeepsS.halt _
    · exact KeepsS.halt _
  · exact KeepsS.halt _
theorem KeepsS.isAgg (t : TypeId) : KeepsS P (Go.isAgg t) := by
  unfold Go.isAgg
  refine (KeepsS.underlying t).bind fun d => ?_
  split <;> exact KeepsS.pure _
theorem KeepsS.part (t : TypeId) (cs : Array Value) (off : Nat) : KeepsS P (Go.part t cs off) := by
  unfold Go.part
  refine (KeepsS.isAgg t).bind fun b => ?_
  split
  · refine KeepsS.bind ?_ fun n => KeepsS.pure _
    unfold sizeOf
    exact (KeepsS.typeInfo t).bind fun _ => KeepsS.pure _
  · split
    · exact KeepsS.pure _
    · exact KeepsS.halt _
theorem KeepsS.followBlind : ∀ (l : List FieldStep) (t : TypeId) (x : Option Value), KeepsS P (Go.followBlind l t x)
  | [], t, x => KeepsS.pure _
  | s :: rest, t, x => by
    unfold Go.followBlind
    refine (KeepsS.underlying _).bind fun d => ?_
    split
    · split
      · split
        · exact KeepsS.pure _
        · exact KeepsS.followBlind rest _ _
        · exact KeepsS.halt _
        · exact KeepsS.pure _
        · exact (KeepsS.part _ _ _).bind fun _ => KeepsS.followBlind rest _ _
        · exact KeepsS.halt _
        · exact KeepsS.followBlind rest _ _
      · exact KeepsS.halt _
    · exact KeepsS.halt _
theorem KeepsS.nilAhead : ∀ (n : Nat) (t : TypeId) (v : Value) (nm : String), KeepsS P (Go.nilAhead n t v nm)
  | 0, t, v, nm => KeepsS.pure _
  | n + 1, t, v, nm => by
    unfold Go.nilAhead
    refine (KeepsS.typeInfo _).bind fun ti => ?_
    split
    · refine (KeepsS.followBlind _ _ _).bind fun r => ?_
      split
      · exact KeepsS.pure _
      · split
        · exact KeepsS.nilAhead n _ _ _
        · exact KeepsS.pure _
        · exact KeepsS.halt _
        · exact KeepsS.pure _
        · exact KeepsS.pure _
        · refine (KeepsS.underlying _).bind fun d => ?_
          split <;> exact KeepsS.pure _
    · exact KeepsS.halt _
def fieldB (P : Program) (s : TypeId) (f : Nat) : Bool := match P.underlying s with
  | some (.struct fs) => (match fs[f]? with | some fl => ((P.info? fl.type).map fun i => i.size != 0).getD false | none => false)
  | _ => false
theorem fieldB_run {s : TypeId} {f : Nat} (h : fieldB P s f = true) : ∃ off : Nat, ∀ (k o : Nat) (w : World), (Instr.fieldAt s (.pointer (some ⟨k, o, none⟩)) f).run P w = .ok (.pointer (some ⟨k, o + off, none⟩)) w := by
  unfold fieldB at h
  split at h
  · rename_i fs hs
    split at h
    · rename_i fl hf
      cases hi : P.info? fl.type with
      | none => rw [hi] at h; cases h
      | some i =>
        rw [hi] at h
        simp only [Option.map_some, Option.getD_some, bne_iff_ne, ne_eq] at h
        refine ⟨fl.offset, fun k o w => ?_⟩
        have hti : ∀ w, (Go.typeInfo fl.type).run P w = .ok i w := fun w => by
          unfold Go.typeInfo Go.program
          simp [Sem.run_bind, Sem.run, hi]
        simp only [Instr.fieldAt, Sem.run_bind, run_underlying hs, Result.andThen_ok, hf, Instr.sureAddr, Sem.run_pure, fieldPlace, sizeOf, hti, h, if_false]
        unfold Addr.add
        split
        · rename_i h0; rw [h0]; rfl
        · rfl
    · cases h
  · cases h
theorem KeepsS.fieldAt {s : TypeId} {f : Nat} (h : fieldB P s f = true) (x : Value) : KeepsS P (Instr.fieldAt s x f) := by
  unfold fieldB at h
  split at h
  · rename_i fs hs
    split at h
    · rename_i fl hf
      cases hi : P.info? fl.type with
      | none => rw [hi] at h; cases h
      | some i =>
        rw [hi] at h
        simp only [Option.map_some, Option.getD_some, bne_iff_ne, ne_eq] at h
        unfold Instr.fieldAt
        refine KeepsS.under hs ?_
        simp only [hf]
        refine KeepsS.bind ?_ fun a => ?_
        · unfold Instr.sureAddr
          split
          · exact KeepsS.pure _
          · exact KeepsS.halt _
        · refine KeepsS.bind ?_ fun _ => KeepsS.pure _
          unfold fieldPlace
          intro w w' y r c T z h0 h1
          have hti : ∀ w, (Go.typeInfo fl.type).run P w = .ok i w := fun w => by
            unfold Go.typeInfo Go.program
            simp [Sem.run_bind, Sem.run, hi]
          simp only [Sem.run_bind, sizeOf, hti, Result.andThen_ok, Sem.run_pure, h, if_false] at h1
          cases h1
          exact h0
    · cases h
  · cases h
def keepsB (P : Program) (o : Oper) : Bool := match o.op with
  | .move _ | .assign _ | .extract _ _ | .load _ _ | .entryStore _ _ _ _ | .nilCheck _ => true
  | .fieldAddr s _ f => fieldB P s f
  | .mapEntry T _ _ => strKeyB P T
  | _ => false
def plainN : Next → Bool | .value _ | .skip => true | _ => false
theorem keepsB_v {m : Sem Value} (h : KeepsS P m) {w w' : World} {n : Next} {r : Nat} {c : Array Value} {T : TypeId} {z : Nat × Nat} (h0 : w.heap[r]? = some (.cells c T z)) (h1 : (do pure (.value (← m)) : Sem Next).run P w = .ok n w') :
    w'.heap[r]? = some (.cells c T z) ∧ plainN n = true := by
  refine ⟨KeepsS.bind h (fun _ => KeepsS.pure _) _ _ _ _ _ _ _ h0 h1, ?_⟩
  rw [Sem.run_bind] at h1
  cases hm : m.run P w with
  | ok x w1 => rw [hm, Result.andThen_ok, Sem.run_pure] at h1; cases h1; rfl
  | halt y w1 => rw [hm] at h1; cases h1
theorem keepsB_u {m : Sem Unit} (h : KeepsS P m) {w w' : World} {n : Next} {r : Nat} {c : Array Value} {T : TypeId} {z : Nat × Nat} (h0 : w.heap[r]? = some (.cells c T z)) (h1 : (do m; pure .skip : Sem Next).run P w = .ok n w') :
    w'.heap[r]? = some (.cells c T z) ∧ plainN n = true := by
  refine ⟨KeepsS.bind h (fun _ => KeepsS.pure _) _ _ _ _ _ _ _ h0 h1, ?_⟩
  rw [Sem.run_bind] at h1
  cases hm : m.run P w with
  | ok x w1 => rw [hm, Result.andThen_ok, Sem.run_pure] at h1; cases h1; rfl
  | halt y w1 => rw [hm] at h1; cases h1
def PlainS (P : Program) (m : Sem Next) : Prop := ∀ (w : World) (n : Next) (w' : World), m.run P w = .ok n w' → plainN n = true
theorem PlainS.bind {α : Type} {m : Sem α} {f : α → Sem Next} (h2 : ∀ x, PlainS P (f x)) : PlainS P (m >>= f) := fun w n w' h => by
  rw [Sem.run_bind] at h
  cases hm : m.run P w with
  | ok x w1 => rw [hm, Result.andThen_ok] at h; exact h2 x _ _ _ h
  | halt y w1 => rw [hm] at h; cases h
theorem keepsB_n {m : Sem Next} (h : KeepsS P m) {w w' : World} {n : Next} {r : Nat} {c : Array Value} {T : TypeId} {z : Nat × Nat} (hn : ∀ w n w', m.run P w = .ok n w' → plainN n = true) (h0 : w.heap[r]? = some (.cells c T z)) (h1 : m.run P w = .ok n w') :
    w'.heap[r]? = some (.cells c T z) ∧ plainN n = true := ⟨h _ _ _ _ _ _ _ h0 h1, hn _ _ _ h1⟩
theorem keepsB_spec {o : Oper} (h : keepsB P o = true) {ρ : Operand → Value} {w w' : World} {n : Next} {r : Nat} {c : Array Value} {T : TypeId} {z : Nat × Nat} (h0 : w.heap[r]? = some (.cells c T z)) (h1 : (execOp ρ o).run P w = .ok n w') :
    w'.heap[r]? = some (.cells c T z) ∧ plainN n = true := by
  unfold keepsB at h
  unfold execOp at h1
  split at h <;> rename_i hop <;> simp only [hop] at h1
  · rw [Sem.run_pure] at h1; cases h1; exact ⟨h0, rfl⟩
  · rw [Sem.run_pure] at h1; cases h1; exact ⟨h0, rfl⟩
  · exact keepsB_v (KeepsS.extract _ _) h0 h1
  · exact keepsB_v (KeepsS.loadAt _ _) h0 h1
  · exact keepsB_u (KeepsS.entryStore _ _ _ _) h0 h1
  · split at h1
    · exact absurd h1 (by intro h1; have := h1; unfold runtimePanic at this; simp [Sem.run_bind, Go.program, Sem.run, Result.andThen_ok, goPanic] at this)
    · exact absurd h1 (by intro h1; have := h1; unfold runtimePanic at this; simp [Sem.run_bind, Go.program, Sem.run, Result.andThen_ok, goPanic] at this)
    · exact absurd h1 (by intro h1; have := h1; unfold runtimePanic at this; simp [Sem.run_bind, Go.program, Sem.run, Result.andThen_ok, goPanic] at this)
    · split at h1
      · exact absurd h1 (by intro h1; have := h1; unfold runtimePanic at this; simp [Sem.run_bind, Go.program, Sem.run, Result.andThen_ok, goPanic] at this)
      · refine keepsB_n ?_ ?_ h0 h1
        · refine KeepsS.program.bind fun _ => (KeepsS.nilAhead _ _ _ _).bind fun _ => ?_
          split
          · exact KeepsS.halt _
          · exact KeepsS.pure _
        · refine PlainS.bind fun _ => PlainS.bind fun _ => ?_
          split
          · exact fun w n w' h => by simp [unsupported, Sem.run, Result.andThen, Sem.run_bind] at h
          · exact fun w n w' h => by rw [Sem.run_pure] at h; cases h; rfl
      · rw [Sem.run_pure] at h1; cases h1; exact ⟨h0, rfl⟩
    · rw [Sem.run_pure] at h1; cases h1; exact ⟨h0, rfl⟩
  · exact keepsB_v (KeepsS.fieldAt h _) h0 h1
  · exact keepsB_v (KeepsS.mapEntry h _ _) h0 h1
  · cases h
end
end Go.Sh
set_option linter.unusedVariables false
set_option linter.unusedSimpArgs false
namespace Go.Sh
section
variable {P : Program} {ops : Array Oper} {md : Region.Mode} {R : Act → World → Prop}
theorem wpOp_steady {j : Nat} {oi oj : Oper} {p : Tmp} {pv u : Value} {r : Nat} {c : Array Value} {T : TypeId} {z : Nat × Nat} (hj : ops[j]? = some oj) (hop : Operand.tmp p ∈ oi.op.operands.toList) (hap : oi.apart ops oj = true) (hsj : ∀ cs b, oj.op ≠ .select cs b) (hk : keepsB P oj = true)
    {K : Act → World → Prop} {a : Act} {w : World} (hJ : w.heap[r]? = some (.cells c T z)) (hv : a.eval (.tmp p) = pv) (h : wpOp P ops (NQ R) j K (a.put oi.dst u) w) :
    wpOp P ops (NQ R) j (fun a' w' => a'.eval (.tmp p) = pv ∧ w'.heap[r]? = some (.cells c T z) ∧ K (a'.put oi.dst u) w') a w := by
  obtain ⟨h1, h2, h3⟩ := Oper.apart_spec hap
  have keep : ∀ y, (a.put oj.dst y).eval (.tmp p) = pv := fun y => by
    rw [Act.eval_put fun d hd e => h3 d hd ?_]
    · exact hv
    · cases e
      exact List.mem_append_left _ (List.mem_filterMap.2 ⟨.tmp p, hop, rfl⟩)
  unfold wpOp at *
  simp only [hj] at *
  rw [wanted_put oj a oi.dst u h1] at h
  split
  · rename_i hw
    simp only [hw, if_true] at h
    refine .inl ?_
    rcases h with h | h
    · unfold Oper.wp at *
      rw [execOp_put oj hsj a oi.dst u h1] at h
      cases hr : (execOp a.eval oj).run P w with
      | ok n w' =>
        obtain ⟨g1, g2⟩ := keepsB_spec hk hJ hr
        rw [hr] at h
        cases n <;> simp only [plainN, reduceCtorEq] at g2 <;> simp only [Oper.upon] at h ⊢
        case value y => exact ⟨keep y, g1, by rw [← Act.put_comm a u y h2]; exact h⟩
        case skip => exact ⟨keep _, g1, by rw [← Act.put_comm a u undef h2]; exact h⟩
      | halt y w' =>
        rw [hr] at h
        cases y <;> simp only [Oper.upon] at h ⊢
        exact absurd h.1 (by simp)
    · exact absurd h.2 NQ.out
  · rename_i hw
    simp only [hw] at h
    exact ⟨keep _, hJ, by rw [← Act.put_comm a u undef h2]; exact h⟩
theorem wpAny_steady {i : Nat} {oi : Oper} {p : Tmp} {pv u : Value} {r : Nat} {c : Array Value} {T : TypeId} {z : Nat × Nat} (hi : ops[i]? = some oi) (hop : Operand.tmp p ∈ oi.op.operands.toList) (hg : oi.guard = none) (hsel : ∀ (j : Nat) (o : Oper) cs b, ops[j]? = some o → o.op ≠ .select cs b)
    (hval : ∀ (a : Act) (w : World), a.eval (.tmp p) = pv → w.heap[r]? = some (.cells c T z) → (execOp a.eval oi).run P w = .ok (.value u) w) :
    ∀ (fuel : Nat) (listed : Array Bool) (a : Act) (w : World),
      (∀ j oj, ops[j]? = some oj → j ≠ i → listed.getD j true = false → (∀ e ∈ oj.after, Region.binds md e = true → e.on ≠ i) → oi.apart ops oj = true ∧ keepsB P oj = true) →
      i ∈ Region.ready md ops listed → a.eval (.tmp p) = pv → w.heap[r]? = some (.cells c T z) →
      wpAny P md ops (NQ R) fuel (listed.setIfInBounds i true) (a.put oi.dst u) w → wpAny P md ops (NQ R) (fuel + 1) listed a w := by
  have one : ∀ (K : Act → World → Prop) (a : Act) (w : World), a.eval (.tmp p) = pv → w.heap[r]? = some (.cells c T z) → K (a.put oi.dst u) w → wpOp P ops (NQ R) i K a w := fun K a w e1 e2 h => by
    unfold wpOp
    simp only [hi]
    have hw : Region.wanted oi (yielded ops a.tmps) = true := by unfold Region.wanted; rw [hg]
    rw [if_pos hw]
    refine .inl ?_
    unfold Oper.wp
    rw [hval a w e1 e2, Oper.upon_value]
    exact h
  intro fuel
  induction fuel with
  | zero =>
    intro listed a w _ hr e1 e2 H
    refine ⟨fun h => (by rw [h] at hr; cases hr), fun j hj => ?_⟩
    by_cases hji : j = i
    · subst hji; exact one _ a w e1 e2 H
    · have := ready_mono hj hji
      rw [H.1] at this
      cases this
  | succ fuel ih =>
    intro listed a w hfree hr e1 e2 H
    refine ⟨fun h => (by rw [h] at hr; cases hr), fun j hj => ?_⟩
    by_cases hji : j = i
    · subst hji; exact one _ a w e1 e2 H
    · have h1 := H.2 j (ready_mono hj hji)
      obtain ⟨hjun, oj, hoj, hall⟩ := mem_ready.1 hj
      have hnot : ∀ e ∈ oj.after, Region.binds md e = true → e.on ≠ i := fun e he hb heq => by
        have h1 := hall e he hb
        have h0 := (mem_ready.1 hr).1
        rw [heq] at h1
        rcases Nat.lt_or_ge i listed.size with h' | h'
        · simp [h'] at h0 h1; rw [h0] at h1; cases h1
        · simp [Array.getElem?_eq_none h'] at h1
      obtain ⟨ha, hkk⟩ := hfree j oj hoj hji hjun hnot
      have h2 := wpOp_steady hoj hop ha (fun cs b => hsel j oj cs b hoj) hkk e2 e1 h1
      have hfree' : ∀ k ok, ops[k]? = some ok → k ≠ i → (listed.setIfInBounds j true).getD k true = false →
          (∀ e ∈ ok.after, Region.binds md e = true → e.on ≠ i) → oi.apart ops ok = true ∧ keepsB P ok = true := fun k ok hk hki hun hno => by
        refine hfree k ok hk hki ?_ hno
        by_cases hjk : j = k
        · subst hjk; exact hjun
        · rw [getD_set_ne true hjk] at hun; exact hun
      refine wpOp_mono (fun a' w' h3 => ?_) h2
      obtain ⟨h3, h4, h5⟩ := h3
      refine ih (listed.setIfInBounds j true) a' w' hfree' (ready_mono hr (Ne.symm hji)) h3 h4 ?_
      rw [Array.setIfInBounds_comm _ _ hji]
      exact h5
def notAggB (P : Program) (T : TypeId) : Bool := match P.underlying T with | some (.struct _) | some (.array _ _) | none => false | _ => true
theorem notAggB_run {T T0 : TypeId} {r off : Nat} {c : Array Value} {z : Nat × Nat} {w : World} (h : notAggB P T = true) (hJ : w.heap[r]? = some (.cells c T0 z)) :
    (Instr.loadAt T (.pointer (some ⟨r, off, none⟩))).run P w = match c[off]? with | some u => .ok u w | none => .halt (w.noCell ⟨r, off, none⟩ "load: no such cell") w := by
  unfold notAggB at h
  cases hd : P.underlying T with
  | none => rw [hd] at h; cases h
  | some d =>
    rw [hd] at h
    have hagg : (isAgg T).run P w = .ok false w := by
      unfold isAgg
      simp only [Sem.run_bind, run_underlying hd, Result.andThen_ok]
      cases d <;> simp_all [Sem.run_pure]
    simp only [Instr.loadAt, Instr.sureAddr, Sem.run_bind, Sem.run_pure, Result.andThen_ok, loadVar, hagg, if_false, Bool.false_eq_true, Go.load, Sem.run, World.cell?, hJ, Option.isSome_none, World.farLoad]
    cases c[off]? <;> rfl
def othersB (P : Program) (ops : Array Oper) (l : Array Bool) (m : Nat) : Bool :=
  (List.range ops.size).all fun j => j == m || l.getD j true || match ops[j]? with
    | some oj => oj.after.any (fun e => Region.binds .any e && e.on == m) || keepsB P oj
    | none => true
theorem othersB_spec {l : Array Bool} {m : Nat} (h : othersB P ops l m = true) (j : Nat) (oj : Oper) (hj : ops[j]? = some oj) (hne : j ≠ m) (hun : l.getD j true = false) (hno : ∀ e ∈ oj.after, Region.binds .any e = true → e.on ≠ m) : keepsB P oj = true := by
  simp only [othersB, List.all_eq_true, List.mem_range] at h
  have h1 := h j (Array.getElem?_eq_some_iff.1 hj).1
  simp only [hj, Bool.or_eq_true, beq_iff_eq, hne, false_or, hun, Bool.false_eq_true] at h1
  rcases h1 with h1 | h1
  · obtain ⟨e, he, hb⟩ := Array.any_eq_true'.1 h1
    simp only [Bool.and_eq_true, beq_iff_eq] at hb
    exact absurd hb.2 (hno e he hb.1)
  · exact h1
def steadyB (P : Program) (ops : Array Oper) (n : Nat) : List Nat → Array Bool → List Tmp → Bool
  | [], _, _ => true
  | m :: ms, l, kn => match ops[m]? with
    | some o => (Region.ready .any ops l).contains m && Region.free .any ops l m && match o.op, o.dst with
      | .move _, some d => steadyB P ops n ms (l.setIfInBounds m true) (kn.filter (fun p => p != d))
      | .fieldAddr s (.tmp p) f, some d => kn.contains p && fieldB P s f && othersB P ops l m && decide (d < n) && steadyB P ops n ms (l.setIfInBounds m true) (d :: kn.filter (fun p => p != d))
      | .load T (.tmp p), some d => kn.contains p && notAggB P T && othersB P ops l m && steadyB P ops n ms (l.setIfInBounds m true) (kn.filter (fun p => p != d))
      | _, _ => false
    | none => false
def Kn (r : Nat) (kn : List Tmp) (a : Act) : Prop := ∀ p ∈ kn, ∃ off, a.eval (.tmp p) = .pointer (some ⟨r, off, none⟩)
theorem Kn.put {r : Nat} {kn : List Tmp} {a : Act} (h : Kn r kn a) (d : Tmp) (v : Value) : Kn r (kn.filter (fun p => p != d)) (a.put (some d) v) := fun p hp => by
  obtain ⟨h1, h2⟩ := List.mem_filter.1 hp
  obtain ⟨off, ho⟩ := h p h1
  refine ⟨off, ?_⟩
  rw [Act.eval_put fun d' hd e => ?_]
  · exact ho
  · cases hd; cases e; simp at h2
theorem Act.eval_self {a : Act} {d : Tmp} {v : Value} (h : d < a.tmps.size) : (a.put (some d) v).eval (.tmp d) = v := by
  simp [Act.put, Act.eval, h]
theorem steadyB_closed {n : Nat} : ∀ (ms : List Nat) (l : Array Bool) (kn : List Tmp), steadyB P ops n ms l kn = true → (∀ j oj, ops[j]? = some oj → l.getD j false = true → ∀ e ∈ oj.after, Region.binds .any e = true → l.getD e.on false = true) →
    ∀ j oj, ops[j]? = some oj → (markL ms l).getD j false = true → ∀ e ∈ oj.after, Region.binds .any e = true → (markL ms l).getD e.on false = true
  | [], _, _, _, h => h
  | m :: ms, l, kn, hb, h => by
    unfold steadyB at hb
    split at hb
    · rename_i om hom
      simp only [Bool.and_eq_true] at hb
      have key : ∀ kn', steadyB P ops n ms (l.setIfInBounds m true) kn' = true → ∀ j oj, ops[j]? = some oj → (markL (m :: ms) l).getD j false = true → ∀ e ∈ oj.after, Region.binds .any e = true → (markL (m :: ms) l).getD e.on false = true := fun kn' hk => by
        refine steadyB_closed ms _ kn' hk fun j oj hj hl e he hbd => ?_
        obtain ⟨_, om', hom', hall⟩ := mem_ready.1 (by simpa using hb.1.1 : m ∈ Region.ready .any ops l)
        by_cases hmj : m = j
        · subst hmj
          have : oj = om' := Option.some.inj (hj.symm.trans hom')
          subst this
          exact getD_set_true (hall e he hbd)
        · rw [getD_set_ne false hmj] at hl
          exact getD_set_true (h j oj hj hl e he hbd)
      have hb2 := hb.2
      split at hb2
      · exact key _ hb2
      · simp only [Bool.and_eq_true] at hb2; exact key _ hb2.2
      · simp only [Bool.and_eq_true] at hb2; exact key _ hb2.2
      · cases hb2
    · cases hb
theorem wpAny_steadies {n : Nat} {r : Nat} {c : Array Value} {T : TypeId} {z : Nat × Nat} (hng : ops.all (fun o => o.guard.isNone) = true) (hsel : ∀ (j : Nat) (o : Oper) cs b, ops[j]? = some o → o.op ≠ .select cs b) {hds : List Nat} {Q : Act → Prop} {w : World} {fuel : Nat} (hJ : w.heap[r]? = some (.cells c T z)) :
    ∀ (ms : List Nat) (l : Array Bool) (kn : List Tmp) (a : Act), steadyB P ops n ms l kn = true → Kn r kn a → a.tmps.size = n → (∀ a', wpStill P ops w Q (opsOf ops hds) a' → wpAny P .any ops (NQ R) fuel (markL ms l) a' w) →
      wpStill P ops w Q (opsOf ops (ms ++ hds)) a → wpAny P .any ops (NQ R) (ms.length + fuel) l a w
  | [], l, kn, a, _, _, _, hk, h => by simpa [markL] using hk a h
  | m :: ms, l, kn, a, hb, hkn, hsz, hk, h => by
    unfold steadyB at hb
    split at hb
    · rename_i om hom
      simp only [Bool.and_eq_true] at hb
      obtain ⟨⟨b2, b3⟩, b4⟩ := hb
      have hmr : m ∈ Region.ready .any ops l := by simpa using b2
      have hmg : om.guard = none := opsOf_ng hng [m] om (by simp [opsOf, hom])
      have hcons : opsOf ops (m :: ms ++ hds) = om :: opsOf ops (ms ++ hds) := by simp [opsOf, hom]
      rw [hcons] at h
      unfold wpStill at h
      rw [if_pos (wanted_ng hmg _)] at h
      have e : (m :: ms).length + fuel = (ms.length + fuel) + 1 := by simp; omega
      rw [e]
      split at b4
      · rename_i x d hop hd
        have hexec : (execOp a.eval om).run P w = .ok (.value (a.eval x)) w := by unfold execOp; rw [hop]; rfl
        unfold Oper.still at h
        rw [hexec, Oper.stillUpon_value] at h
        have := wpAny_steadies hng hsel hJ ms (l.setIfInBounds m true) _ _ b4 (by rw [hd]; exact hkn.put d _) (by rw [put_size]; exact hsz) hk h
        exact wpAny_move hom hop hmg hsel _ _ a _ (Region.free_spec hom b3) hmr this
      · rename_i s p f d hop hd
        simp only [Bool.and_eq_true, decide_eq_true_eq] at b4
        obtain ⟨⟨⟨⟨c1, c2⟩, c3⟩, c5⟩, c4⟩ := b4
        obtain ⟨off, hoff⟩ := hkn p (by simpa using c1)
        obtain ⟨fo, hfo⟩ := fieldB_run c2
        have hval : ∀ (a : Act) (w : World), a.eval (.tmp p) = .pointer (some ⟨r, off, none⟩) → w.heap[r]? = some (.cells c T z) → (execOp a.eval om).run P w = .ok (.value (.pointer (some ⟨r, off + fo, none⟩))) w := fun a w e1 _ => by
          unfold execOp
          simp only [hop, e1, Sem.run_bind, hfo, Result.andThen_ok, Sem.run_pure]
        unfold Oper.still at h
        rw [hval a w hoff hJ, Oper.stillUpon_value] at h
        have := wpAny_steadies hng hsel hJ ms (l.setIfInBounds m true) _ _ c4 (by
          rw [hd]
          intro q hq
          rcases List.mem_cons.1 hq with rfl | hq
          · exact ⟨_, Act.eval_self (by rw [hsz]; exact c5)⟩
          · exact hkn.put d _ q hq) (by rw [put_size]; exact hsz) hk h
        exact wpAny_steady hom (by rw [hop]; simp [Op.operands]) hmg hsel hval _ _ a _ (fun j oj g1 g2 g3 g4 => ⟨Region.free_spec hom b3 j oj g1 g2 g3 g4, othersB_spec c3 j oj g1 g2 g3 g4⟩) hmr hoff hJ this
      · rename_i T1 p d hop hd
        simp only [Bool.and_eq_true] at b4
        obtain ⟨⟨⟨c1, c2⟩, c3⟩, c4⟩ := b4
        obtain ⟨off, hoff⟩ := hkn p (by simpa using c1)
        have hrun : ∀ (a : Act) (w : World), a.eval (.tmp p) = .pointer (some ⟨r, off, none⟩) → w.heap[r]? = some (.cells c T z) → (execOp a.eval om).run P w = match c[off]? with | some u => .ok (.value u) w | none => .halt (w.noCell ⟨r, off, none⟩ "load: no such cell") w := fun a w e1 e2 => by
          unfold execOp
          simp only [hop, e1, Sem.run_bind, notAggB_run c2 e2]
          cases c[off]? <;> simp [Sem.run_pure, Result.andThen]
        cases hc : c[off]? with
        | none =>
          unfold Oper.still at h
          rw [hrun a w hoff hJ, hc] at h
          exact absurd h (by simp [Oper.stillUpon])
        | some u =>
          have hval : ∀ (a : Act) (w : World), a.eval (.tmp p) = .pointer (some ⟨r, off, none⟩) → w.heap[r]? = some (.cells c T z) → (execOp a.eval om).run P w = .ok (.value u) w := fun a w e1 e2 => by rw [hrun a w e1 e2, hc]
          unfold Oper.still at h
          rw [hval a w hoff hJ, Oper.stillUpon_value] at h
          have := wpAny_steadies hng hsel hJ ms (l.setIfInBounds m true) _ _ c4 (by rw [hd]; exact hkn.put d _) (by rw [put_size]; exact hsz) hk h
          exact wpAny_steady hom (by rw [hop]; simp [Op.operands]) hmg hsel hval _ _ a _ (fun j oj g1 g2 g3 g4 => ⟨Region.free_spec hom b3 j oj g1 g2 g3 g4, othersB_spec c3 j oj g1 g2 g3 g4⟩) hmr hoff hJ this
      · cases b4
    · cases hb
end
section
variable {P : Program} {pu : Bool} {st : St} {ops : Array Oper}
def permSB (P : Program) (ops : Array Oper) (n s0 : Nat) (ms hds : List Nat) (t0 : Nat) (ts : List Nat) : Bool :=
  Region.noSelect ops && ops.all (fun o => o.guard.isNone) && steadyB P ops n ms (Array.replicate ops.size false) [s0] &&
    sinkH .any ops hds t0 && chainH .any ops t0 ts && hds.all (fun i => !(t0 :: ts).contains i) && ms.all (fun i => !(t0 :: ts).contains i) && decide (ops.size = ms.length + (hds.length + (ts.length + 1))) &&
    (List.range ops.size).all (fun i => hds.contains i || (t0 :: ts).contains i || ms.contains i) && (t0 :: ts).all (fun i => decide (i < ops.size)) && decide ((opsOf ops (ms ++ hds)).length = ms.length + hds.length) &&
    lexHeadH .any ops (t0 :: ts) hds (markL ms (Array.replicate ops.size false))
theorem SW.regionS {id : Nat} {l : List Oper} {Q : Exit → St → Prop} (n s0 : Nat) (ms hds : List Nat) (t0 : Nat) (ts : List Nat) (k : Nat) (hk : decide (k = ms.length + hds.length) = true) (hm : P.follows .mixedOrders = true) (hb : ((boxAt st s0).isSome && decide (st.tmps.length = n)) = true) (hB : permSB P l.toArray n s0 ms hds t0 ts = true)
    (h : OBk P (permML l.toArray ms hds t0 ts) k 0 st (fun st1 => OWk P pu (permML l.toArray ms hds t0 ts) k st1 (Q .normal))) : SW P pu (.region id l.toArray true) st Q := by
  have hk := of_decide_eq_true hk
  subst hk
  generalize hops : l.toArray = ops at *
  intro a w g hr
  refine Code.wp_mono (Q := NQ fun a' w' => ∃ st' g', Q .normal st' ∧ Rel st' a' w' g' ∧ Fr pu g w g' w') (fun e a' w' hh => by obtain ⟨rfl, hh⟩ := hh; exact hh) ?_
  simp only [permSB, Bool.and_eq_true, decide_eq_true_eq] at hB
  obtain ⟨⟨⟨⟨⟨⟨⟨⟨⟨⟨⟨b1, b2⟩, b3⟩, b6⟩, b7⟩, b8⟩, b9⟩, b10⟩, b11⟩, b12⟩, b13⟩, b14⟩ := hB
  refine wp_region_any hm ?_
  simp only [Bool.and_eq_true, decide_eq_true_eq] at hb
  obtain ⟨hb1, hb2⟩ := hb
  obtain ⟨cs, hcs⟩ : ∃ cs, st.tmps[s0]? = some (.box cs) := by
    unfold boxAt at hb1
    split at hb1
    · exact ⟨_, by assumption⟩
    · cases hb1
  obtain ⟨r, c, T, hv, hg0, hcell, _⟩ := hr.drew.tmp s0 _ hcs
  have hms : ∀ i ∈ ms, i ∉ t0 :: ts := fun i hi => by have := List.all_eq_true.1 b9 i hi; simpa using this
  have inv : HInv .any ops hds t0 ts (markL ms (Array.replicate ops.size false)) := by
    refine ⟨by rw [markL_size]; simp, steadyB_closed ms _ _ b3 (fun j oj hj hl => by rw [getD_replicate_false] at hl; cases hl), fun t ht => ?_, fun i hi h1 h2 => ?_⟩
    · rw [markL_not ms _ t (fun h => hms t h ht)]
      have := List.all_eq_true.1 b12 t ht
      simp at this
      simp [this]
    · have := List.all_eq_true.1 b11 i (List.mem_range.2 hi)
      simp only [Bool.or_eq_true, List.contains_iff_mem] at this
      rcases this with (h3 | h3) | h3
      · exact absurd h3 h1
      · exact absurd h3 h2
      · exact markL_mem ms _ i h3 (by simpa using hi)
  have hl1 : (permML ops ms hds t0 ts).toList.take (ms.length + hds.length) = opsOf ops (ms ++ hds) := by simp only [permML]; rw [List.take_append_of_le_length (by omega), List.take_of_length_le (by omega)]
  have hl2 : (permML ops ms hds t0 ts).toList.drop (ms.length + hds.length) = opsOf ops (t0 :: ts) := by simp only [permML]; rw [← b13, List.drop_left']; rfl
  unfold OBk at h
  rw [List.drop_zero, hl1] at h
  have key := h a w.drew g hr.drew (fun a' => wpList P ops (NQ fun a' w' => ∃ st' g', Q .normal st' ∧ Rel st' a' w' g' ∧ Fr pu g w g' w') (opsOf ops (t0 :: ts)) a' w.drew) (fun st1 a1 g1 q1 r1 f1 => by
    refine wpList_ng (opsOf_ng b2 _) (ops' := permML ops ms hds t0 ts) ?_
    unfold OWk at q1
    rw [hl2] at q1
    exact q1 a1 w.drew g1 r1 _ fun st' a' w' g' q r f => ⟨rfl, st', g', q, r, (Fr.drew.trans (f1 pu)).trans f⟩)
  have key := wpStill_ng (ops := ops) (opsOf_ng b2 (ms ++ hds)) key
  have hsz : ops.size = ms.length + (hds.length + (ts.length + 1)) := b10
  rw [hsz]
  rw [hsz] at inv b14
  refine wpAny_steadies (n := n) b2 (Region.noSelect_spec b1) hcell ms _ [s0] a (by rw [← hsz]; exact b3) (fun p hp => ?_) (by rw [hr.len, hb2]) (fun a' ha' => ?_) key
  · rcases List.mem_cons.1 hp with rfl | hp
    · exact ⟨0, hv⟩
    · cases hp
  · refine wpAny_of_headH (hds := hds) (g := ts.length + 1) (fun listed' a' hL => ?_) hds.length _ _ (wpAnyH_lex b1 b6 b7 (fun i hi => by have := List.all_eq_true.1 b8 i hi; simpa using this) hds _ _ (fun _ h => h) inv b14 ha')
    exact wpAny_of_seqH (t0 :: ts) listed' a' _ hL.1 hL.2
end
end Go.Sh
set_option linter.unusedVariables false
set_option linter.unusedSimpArgs false
namespace Go.Sh
section
variable {P : Program} {pu : Bool} {st : St} {ops : Array Oper}
theorem upon_NQ {o : Oper} {a : Act} {next : Act → World → Prop} {R R' : Act → World → Prop} {r : Result Next} (h : o.upon P a next (NQ R) r) : o.upon P a next (NQ R') r := by
  cases r with
  | ok n w' =>
    cases n <;> simp only [Oper.upon] at h ⊢ <;> first
      | exact h
      | (refine h.mono fun e w'' hh => ?_
         cases e with
         | returned v => exact hh
         | panicked ch => cases hh.1
         | outgrown => exact absurd hh NQ.out)
  | halt hh w' => cases hh <;> simp only [Oper.upon] at h ⊢ <;> first | exact h | cases h.1
def lstM (n m : Nat) : Array Bool := ((List.range n).map (fun i => m.testBit i)).toArray
theorem lstM_set (n m i : Nat) : (lstM n m).setIfInBounds i true = lstM n (m ||| 2 ^ i) := by
  apply Array.ext_getElem?
  intro j
  simp only [lstM, Array.getElem?_setIfInBounds]
  by_cases hj : j < n
  · by_cases e : i = j
    · subst e; simp [hj, Nat.testBit_or]
    · simp [e, hj, Nat.testBit_or, Nat.testBit_two_pow]
  · simp [hj]; omega
def oneA (ops : Array Oper) (i : Nat) : Array Oper := match ops[i]? with
  | some o => #[o]
  | none => #[]
def OX (P : Program) (pu : Bool) (ops : Array Oper) (d m : Nat) (st st' : St) : Prop :=
  ∀ a w g, Rel st a w g → ∀ R : Act → World → Prop, (∀ a' w' g', Rel st' a' w' g' → Fr pu g w g' w' → R a' w') → wpAny P .any ops (NQ R) d (lstM ops.size m) a w
def AllI : List Nat → (Nat → Prop) → Prop
  | [], _ => True
  | i :: r, p => p i ∧ AllI r p
theorem AllI_mem {p : Nat → Prop} : ∀ {l : List Nat}, AllI l p → ∀ i ∈ l, p i
  | i :: r, h, j, hj => by
    rcases List.mem_cons.1 hj with rfl | hj
    · exact h.1
    · exact AllI_mem h.2 j hj
theorem OX.fin {m : Nat} (h : Region.ready .any ops (lstM ops.size m) = []) : OX P pu ops 0 m st st :=
  fun a w g hr R hR => ⟨h, rfl, hR a w g hr (Fr.refl _ _ _)⟩
theorem OX.step {d m i0 : Nat} {is : List Nat} {st' : St} (hg : ops.all (fun o => o.guard.isNone) = true) (h : Region.ready .any ops (lstM ops.size m) = i0 :: is)
    (hs : AllI (i0 :: is) (fun i => OWk P pu (oneA ops i) 0 st (fun s => OX P pu ops d (m ||| 2 ^ i) s st'))) : OX P pu ops (d + 1) m st st' := by
  intro a w g hr R hR
  unfold wpAny
  rw [h]
  refine ⟨fun e => (List.cons_ne_nil _ _ e).elim, fun i hi => ?_⟩
  have hi' : i ∈ Region.ready .any ops (lstM ops.size m) := by rw [h]; exact hi
  obtain ⟨_, o, ho, _⟩ := mem_ready.1 hi'
  have h1 := AllI_mem hs i hi
  have hog : o.guard = none := opsOf_ng hg [i] o (by simp [opsOf, ho])
  simp only [oneA, ho] at h1
  unfold OWk at h1
  rw [List.drop_zero] at h1
  have h2 := h1 a w g hr (NQ (wpAny P .any ops (NQ R) d (lstM ops.size (m ||| 2 ^ i)))) (fun st1 a1 w1 g1 q1 r1 f1 => ⟨rfl, q1 a1 w1 g1 r1 R fun a' w' g' r2 f2 => hR a' w' g' r2 (f1.trans f2)⟩)
  unfold wpOp
  rw [ho]
  simp only
  rw [if_pos (wanted_ng hog _)]
  unfold wpList at h2
  rw [if_pos (wanted_ng hog _)] at h2
  rcases h2 with h2 | h2
  · left
    rw [lstM_set]
    have h3 := Oper.wp_mono (K' := wpAny P .any ops (NQ R) d (lstM ops.size (m ||| 2 ^ i))) (fun a' w' hh => (show NQ (wpAny P .any ops (NQ R) d (lstM ops.size (m ||| 2 ^ i))) .normal a' w' from hh).2) h2
    exact upon_NQ h3
  · exact absurd h2.2 NQ.out
end
end Go.Sh
namespace Go.Sh
end Go.Sh
set_option linter.unusedVariables false
set_option linter.unusedSimpArgs false
namespace Go.Sh
section
variable {P : Program} {pu : Bool} {st : St} {ops : Array Oper} {Q : St → Prop} {k : Nat}
theorem OpS.boxF {o : Oper} {T : TypeId} {x : Operand} {d : Nat} {y : D} (hop : o.op = .box T x) (hd : o.dst = some d) (hy : valD st x = some y) : OpS P pu st o (st.put (some d) (.d (.dptr y.cells))) := by
  refine OpS.value fun a w g hr => ?_
  have e2 := valD_d hr hy
  obtain ⟨c1, c2⟩ := e2.cells
  rw [hd]
  have hr1 : Rel st a (w.alloc (.cells (a.eval x).cells T)) (g.upd w.heap.size .free) := hr.world (fun _ => Keep.alloc) (fun _ _ h => h) rfl
  have hrd : Rd (g.upd w.heap.size .free) (w.alloc (.cells (a.eval x).cells T)) (.pointer (some ⟨w.heap.size, 0, none⟩)) (.dptr y.cells) := by
    refine .dptr (fun j => (a.eval x).cells.getD j undef) (by simp) (heap_alloc _ _) (fun j z hj => ?_) (fun j z hj => ?_)
    · obtain ⟨u, u1, u2, u3⟩ := c2 j z hj
      rw [Nat.zero_add]
      simp only [Array.getD_eq_getD_getElem?, u1, Option.getD_some]
      exact ⟨trivial, u3⟩
    · obtain ⟨u, u1, u2, u3⟩ := c2 j z hj
      simp only [Array.getD_eq_getD_getElem?, u1, Option.getD_some]
      exact Rd.keep Keep.alloc (fun _ _ h => h) u2
  refine ⟨.pointer (some ⟨w.heap.size, 0, none⟩), w.alloc (.cells (a.eval x).cells T), _, ?_, hr1.putLight (some d) hrd, Fr.alloc⟩
  unfold execOp; rw [hop]
  simp only [Instr.box, Sem.run_bind, newVar, newRow, run_newObj, Result.andThen_ok, Sem.run_pure]
  rfl
def bxAt (ops : Array Oper) (k : Nat) (st : St) : Option (Nat × List D) :=
  match ops[k]? with
  | some o => match o.op, o.dst with
    | .box _ x, some d => match valD st x with
      | some y => if wantS ops st o = some true then some (d, y.cells) else none
      | none => none
    | _, _ => none
  | none => none
theorem OWk.bxf (n : Nat) (H : List SObj) {d : Nat} {ds : List D} (L : List Nat) (l : List (Nat × SV)) (h : bxAt ops k st = some (d, ds)) (hst : pickR n L (st.put (some d) (.d (.dptr ds))) = some (l, H))
    (hn : OWk P pu ops (k + 1) (sp n l H) Q) : OWk P pu ops k st Q := by
  unfold bxAt at h
  split at h
  · rename_i o ho
    split at h
    · rename_i T x d' hop hd
      split at h
      · rename_i y hy
        split at h
        · rename_i hw
          cases h
          exact OWk.e ho hw (OpS.boxF hop hd hy) (OWk.keep L (keepR_of_pick hst) hn)
        · cases h
      · cases h
    · cases h
  · cases h
end
end Go.Sh
set_option linter.unusedVariables false
set_option linter.unusedSimpArgs false
namespace Go.Sh
open Go.Sort
theorem IC.of_sort {α : Type} [Inhabited α] {P : Program} {f : FuncId} (enc : α → Value) (encD : α → D) (hcell : ∀ x, (encD x).cells = [encD x]) (hinv : ∀ g w v x, Rd g w v (encD x) → v = enc x) (hrd : ∀ g w x, Rd g w (enc x) (encD x))
    (h1c : ∀ x, (enc x).oneCell' = true) (srt : List α → List α) (hlen : ∀ l, (srt l).length = l.length)
    (hsort : ∀ (blk off cap : Nat) (zs : List α) (w : World), Holds enc w blk off zs.toArray → blk < w.heap.size → zs.length < 4611686018427387904 →
      Calls P f #[.slice (some ⟨blk, off, none⟩) zs.length cap] w fun e w' => e = .returned (.tuple #[]) ∧ ∃ n os, w' = grow (putRow enc (Sort.ahead w n) blk off (srt zs).toArray) os)
    (hnone : ∀ (p : Option Addr) (cap : Nat) (w : World), Calls P f #[.slice p 0 cap] w fun e w' => e = .returned (.tuple #[]) ∧ w' = w)
    {zs : List α} (hz : zs.length < 4611686018427387904) : IC P f 1 (zs.map encD) ((srt zs).map encD) := by
  intro H w g v hO hH
  rcases hO with ⟨h0, a, rfl⟩ | ⟨k, off, cap, c, T, us, rfl, hk, hb, hl, hsz, hn, hc, hr⟩
  · have e0 : zs = [] := by simpa using h0
    subst e0
    have e1 : srt [] = [] := List.length_eq_zero_iff.1 (by rw [hlen]; rfl)
    rw [e1]
    refine (hnone a 0 w).mono fun e w' hh => ?_
    obtain ⟨rfl, rfl⟩ := hh
    exact ⟨rfl, g, .inl ⟨rfl, a, rfl⟩, hH, Fr.refl _ _ _⟩
  · have hkl : k < w.heap.size := (Array.getElem?_eq_some_iff.1 hb).1
    have hget : ∀ j (hj : j < zs.length), c[off + j]? = some (enc zs[j]) := fun j hj => by
      have hx : (zs.map encD)[j]? = some (encD zs[j]) := by simp [hj]
      have hy : (encD zs[j]).cells[0]? = some (encD zs[j]) := by rw [hcell]; rfl
      have h1 := hc j _ hx 0 _ hy
      have h2 := hinv _ _ _ _ (hr j _ hx 0 _ hy)
      simp only [Nat.mul_one, Nat.add_zero] at h1
      rw [h1.1, h2]
    have hH0 : Holds enc w k off zs.toArray := fun j hj => by
      simp only [List.size_toArray] at hj
      refine ⟨?_, by simp [World.frozen?, hb]⟩
      have : zs.toArray[j]! = zs[j] := by simp [hj]
      rw [this, cell_blk hb]
      exact hget j hj
    have hlz : (zs.map encD).length = zs.length := by simp
    rw [hlz]
    refine (hsort k off cap zs w hH0 hkl hz).mono fun e w' hh => ?_
    obtain ⟨rfl, n, os, rfl⟩ := hh
    -- the heap behind
    have hother : ∀ b, b ≠ k → b < w.heap.size → (grow (putRow enc (Sort.ahead w n) k off (srt zs).toArray) os).heap[b]? = w.heap[b]? := fun b hne hlt => by
      rw [heap_grow_old _ _ (by simpa using hlt)]
      show ((Sort.ahead w n).heap.modify k _)[b]? = _
      rw [Array.getElem?_modify, if_neg (Ne.symm hne)]; rfl
    have hself : (grow (putRow enc (Sort.ahead w n) k off (srt zs).toArray) os).heap[k]? = some (.cells (putCells enc off (srt zs).toArray c) T (0, 0)) := by
      rw [heap_grow_old _ _ (by simpa using hkl)]
      show ((Sort.ahead w n).heap.modify k _)[k]? = _
      rw [Array.getElem?_modify, if_pos rfl, heap_ahead, hb]; rfl
    have keep : ∀ o, o ≠ .lst (.slot 0) → Keep o g w g (grow (putRow enc (Sort.ahead w n) k off (srt zs).toArray) os) := fun o ho b ob h1 h2 => by
      refine ⟨h1, ?_⟩
      have hne : b ≠ k := fun e => by subst e; rw [hk] at h1; exact ho h1.symm
      rw [hother b hne (Array.getElem?_eq_some_iff.1 h2).1]; exact h2
    refine ⟨rfl, g, .inr ⟨k, off, cap, _, T, fun i j => (putCells enc off (srt zs).toArray c).getD (off + i) undef, ?_, hk, hself, ?_, ?_, ?_, ?_, ?_⟩, ?_, ?_⟩
    · simp [hlen]
    · simpa [hlen] using hl
    · simpa [putCells] using hsz
    · intro i x hx
      simp only [List.getElem?_map, Option.map_eq_some_iff] at hx
      obtain ⟨y, _, rfl⟩ := hx
      rw [hcell]; rfl
    · intro i x hx j y hy
      obtain ⟨z, hz', rfl⟩ : ∃ z, (srt zs)[i]? = some z ∧ encD z = x := by simpa using hx
      rw [hcell] at hy
      have hj : j = 0 := by
        cases j with
        | zero => rfl
        | succ j => simp at hy
      subst hj
      have hi : i < zs.length := by rw [← hlen zs]; exact (List.getElem?_eq_some_iff.1 hz').1
      have hlt : off + i < c.size := by
        have := hl
        simp only [List.length_map] at this
        omega
      have hv : (putCells enc off (srt zs).toArray c)[off + i]? = some (enc z) := by
        unfold putCells
        rw [Array.getElem?_mapIdx, Array.getElem?_eq_getElem hlt, Option.map_some]
        have hi2 : i < (srt zs).length := by rw [hlen]; exact hi
        rw [if_pos ⟨by omega, by simpa using hi2⟩]
        have e3 : (srt zs)[i] = z := (List.getElem?_eq_some_iff.1 hz').2
        simp [hi2, e3]
      simp only [Nat.mul_one, Nat.add_zero, hv, Array.getD_eq_getD_getElem?, Option.getD_some]
      exact ⟨trivial, h1c z⟩
    · intro i x hx j y hy
      obtain ⟨z, hz', rfl⟩ : ∃ z, (srt zs)[i]? = some z ∧ encD z = x := by simpa using hx
      rw [hcell] at hy
      have hj : j = 0 ∧ y = encD z := by
        cases j with
        | zero => simp at hy; exact ⟨rfl, hy.symm⟩
        | succ j => simp at hy
      obtain ⟨rfl, rfl⟩ := hj
      have hi : i < zs.length := by rw [← hlen zs]; exact (List.getElem?_eq_some_iff.1 hz').1
      have hlt : off + i < c.size := by
        have := hl
        simp only [List.length_map] at this
        omega
      have hv : (putCells enc off (srt zs).toArray c)[off + i]? = some (enc z) := by
        unfold putCells
        rw [Array.getElem?_mapIdx, Array.getElem?_eq_getElem hlt, Option.map_some]
        have hi2 : i < (srt zs).length := by rw [hlen]; exact hi
        rw [if_pos ⟨by omega, by simpa using hi2⟩]
        have e3 : (srt zs)[i] = z := (List.getElem?_eq_some_iff.1 hz').2
        simp [hi2, e3]
      simp only [hv, Array.getD_eq_getD_getElem?, Option.getD_some]
      exact hrd _ _ _
    · exact hH.keep (fun o ho => keep o fun e => by subst e; cases ho) (fun _ _ h => h) rfl
    · exact ⟨by simp, keep _ (by simp), keep _ (by simp), fun _ _ h => h, fun _ i => keep _ (by simp), fun _ i j => keep _ (by simp), fun _ => rfl, ⟨rfl, rfl⟩⟩
def sortI (fuel : Nat) (p0 : List Int) : Option (List Int) := if p0.length < 4611686018427387904 then some (p0.mergeSort fun x y => decide (x ≤ y)) else none
def sortS (fuel : Nat) (p0 : List (List UInt8)) : Option (List (List UInt8)) := if p0.length < 4611686018427387904 then some (p0.mergeSort fun x y => decide (x ≤ y)) else none
end Go.Sh
namespace Go.Sh
section
variable {P : Program} {pu : Bool} {st : St}
end
end Go.Sh
set_option linter.unusedVariables false
set_option linter.unusedSimpArgs false
namespace Go.Sh
section
variable {P : Program} {ops : Array Oper} {md : Region.Mode} {R : Act → World → Prop} {pu : Bool} {st : St}
def Blind (P : Program) {α : Type} (m : Sem α) : Prop := ∀ w x w', m.run P w = .ok x w' → w' = w ∧ ∀ w2, m.run P w2 = .ok x w2
theorem Blind.pure {α : Type} (x : α) : Blind P (Pure.pure x : Sem α) := fun w y w' h => by
  rw [Sem.run_pure] at h; cases h; exact ⟨rfl, fun w2 => by rw [Sem.run_pure]⟩
theorem Blind.never {α : Type} {m : Sem α} (h : ∀ w x w', m.run P w ≠ .ok x w') : Blind P m := fun w x w' h1 => absurd h1 (h w x w')
theorem Blind.halt {α : Type} (hh : Halt) : Blind P (Sem.halt hh : Sem α) := .never fun w x w' h => by simp [Sem.run] at h
theorem Blind.bind {α β : Type} {m : Sem α} {f : α → Sem β} (h1 : Blind P m) (h2 : ∀ x, Blind P (f x)) : Blind P (m >>= f) := fun w x w' h => by
  rw [Sem.run_bind] at h
  cases hm : m.run P w with
  | ok y w1 =>
    rw [hm, Result.andThen_ok] at h
    obtain ⟨rfl, a2⟩ := h1 w y w1 hm
    obtain ⟨b1, b2⟩ := h2 y _ x w' h
    exact ⟨b1, fun w2 => by rw [Sem.run_bind, a2 w2, Result.andThen_ok]; exact b2 w2⟩
  | halt y w1 => rw [hm] at h; cases h
theorem Blind.program : Blind P Go.program := fun w x w' h => by
  simp only [Go.program, Sem.run] at h; cases h; exact ⟨rfl, fun w2 => rfl⟩
theorem Blind.typeInfo (t : TypeId) : Blind P (Go.typeInfo t) := by
  unfold Go.typeInfo
  refine Blind.program.bind fun p => ?_
  split
  · exact .pure _
  · exact .halt _
theorem Blind.underlying (t : TypeId) : Blind P (Go.underlying t) := by
  unfold Go.underlying
  refine Blind.program.bind fun p => ?_
  split
  · exact .pure _
  · exact .halt _
theorem Blind.sizeOf (t : TypeId) : Blind P (Go.sizeOf t) := (Blind.typeInfo t).bind fun _ => .pure _
theorem nilDeref_never {α : Type} : ∀ w (x : α) w', (runtimePanic .nilDeref : Sem α).run P w ≠ .ok x w' := fun w x w' h => by
  unfold runtimePanic at h
  simp [Sem.run_bind, Go.program, Sem.run, Result.andThen_ok, goPanic] at h
theorem bounds_never {α : Type} (x y : Int) (s : Bool) (c : BoundsCode) : ∀ w (z : α) w', (runtimePanic (.bounds x y s c) : Sem α).run P w ≠ .ok z w' := fun w z w' h => by
  unfold runtimePanic at h
  simp [Sem.run_bind, Go.program, Sem.run, Result.andThen_ok, goPanic] at h
theorem Blind.nilDeref {α : Type} : Blind P (runtimePanic .nilDeref : Sem α) := .never nilDeref_never
theorem never_bind {α β : Type} {m : Sem α} {f : α → Sem β} (h : ∀ y w x w', (f y).run P w ≠ .ok x w') : ∀ w x w', (m >>= f).run P w ≠ .ok x w' := fun w x w' h1 => by
  rw [Sem.run_bind] at h1
  cases hm : m.run P w with
  | ok y w1 => rw [hm, Result.andThen_ok] at h1; exact h y _ _ _ h1
  | halt y w1 => rw [hm] at h1; cases h1
theorem Blind.bounds {α : Type} (k : IntKind) (x y : Int) (c : BoundsCode) : Blind P (boundsPanic k x y c : Sem α) := .never fun w z w' h => by
  unfold boundsPanic at h
  simp only at h
  split at h
  · exact never_bind (fun s => bounds_never _ _ _ _) _ _ _ h
  · exact never_bind (fun s => bounds_never _ _ _ _) _ _ _ h
theorem Blind.asIntOf (v : Value) : Blind P (Go.asIntOf v) := by
  unfold Go.asIntOf
  split
  · exact .pure _
  · exact .halt _
  · exact .halt _
theorem Blind.asAddr (v : Value) : Blind P (Go.asAddr v) := by
  unfold Go.asAddr
  split
  · exact .pure _
  · exact .nilDeref
  · exact .halt _
theorem Blind.sureAddr (v : Value) : Blind P (Instr.sureAddr v) := by
  unfold Instr.sureAddr
  split
  · exact .pure _
  · exact .halt _
theorem Blind.sliceBound (x : Value) (y : Nat) (c : BoundsCode) : Blind P (Instr.sliceBound x y c) := by
  unfold Instr.sliceBound
  refine (Blind.asIntOf x).bind fun p => ?_
  obtain ⟨k, i⟩ := p
  simp only
  split
  · exact .pure _
  · exact .bounds _ _ _ _
theorem Blind.sliceBounds (s : Bool) (len cap : Nat) (lo hi mx : Option Value) : Blind P (Instr.sliceBounds s len cap lo hi mx) := by
  unfold Instr.sliceBounds
  dsimp only
  repeat' first
    | exact .pure _
    | exact .halt _
    | exact .sliceBound _ _ _
    | refine Blind.bind ?_ fun _ => ?_
    | split
theorem Blind.slice (t : TypeId) (x : Value) (lo hi mx : Option Value) : Blind P (Instr.slice t x lo hi mx) := by
  unfold Instr.slice
  dsimp only
  repeat' first
    | exact .pure _
    | exact .halt _
    | exact .underlying _
    | exact .sizeOf _
    | exact .asAddr _
    | exact .sliceBounds _ _ _ _ _ _
    | refine Blind.bind ?_ fun _ => ?_
    | split
theorem Blind.sliceAt (t : TypeId) (x : Value) (lo hi mx : Option Value) : Blind P (Instr.sliceAt t x lo hi mx) := by
  unfold Instr.sliceAt
  dsimp only
  repeat' first
    | exact .pure _
    | exact .halt _
    | exact .underlying _
    | exact .sizeOf _
    | exact .sureAddr _
    | exact .slice _ _ _ _ _
    | exact .sliceBounds _ _ _ _ _ _
    | refine Blind.bind ?_ fun _ => ?_
    | split
theorem Blind.under {T : TypeId} {d : TypeDesc} (hd : P.underlying T = some d) {α : Type} {f : TypeDesc → Sem α} (h : Blind P (f d)) : Blind P (Go.underlying T >>= f) := fun w x w' h1 => by
  rw [Sem.run_bind, run_underlying hd, Result.andThen_ok] at h1
  obtain ⟨a, b⟩ := h w x w' h1
  exact ⟨a, fun w2 => by rw [Sem.run_bind, run_underlying hd, Result.andThen_ok]; exact b w2⟩
theorem Blind.fieldAt {s : TypeId} {f : Nat} (h : fieldB P s f = true) (x : Value) : Blind P (Instr.fieldAt s x f) := by
  unfold fieldB at h
  split at h
  · rename_i fs hs
    split at h
    · rename_i fl hf
      cases hi : P.info? fl.type with
      | none => rw [hi] at h; cases h
      | some i =>
        rw [hi] at h
        simp only [Option.map_some, Option.getD_some, bne_iff_ne, ne_eq] at h
        have hti : ∀ w, (Go.typeInfo fl.type).run P w = .ok i w := fun w => by
          unfold Go.typeInfo Go.program
          simp [Sem.run_bind, Sem.run, hi]
        unfold Instr.fieldAt
        refine Blind.under hs ?_
        simp only [hf]
        refine (Blind.sureAddr x).bind fun a => Blind.bind ?_ fun _ => .pure _
        unfold fieldPlace
        intro w y w' h1
        simp only [Sem.run_bind, Go.sizeOf, hti, Result.andThen_ok, Sem.run_pure, h, if_false] at h1
        cases h1
        exact ⟨rfl, fun w2 => by simp only [Sem.run_bind, Go.sizeOf, hti, Result.andThen_ok, Sem.run_pure, h, if_false]⟩
    · cases h
  · cases h
theorem Blind.indexAt (t : TypeId) (x ix : Value) : Blind P (Instr.indexAt t x ix) := by
  unfold Instr.indexAt
  dsimp only
  repeat' first
    | exact .pure _
    | exact .halt _
    | exact .underlying _
    | exact .sizeOf _
    | exact .sureAddr _
    | exact .asIntOf _
    | exact .bounds _ _ _ _
    | refine Blind.bind ?_ fun _ => ?_
    | split
def blindB (P : Program) (o : Oper) : Bool := match o.op with
  | .move _ | .slice _ _ _ _ _ | .indexAddr _ _ _ => true
  | .fieldAddr s _ f => fieldB P s f
  | _ => false
theorem blindB_spec {o : Oper} (h : blindB P o = true) (ρ : Operand → Value) : Blind P (execOp ρ o) := by
  unfold blindB at h
  unfold execOp
  split at h
  · rename_i x hop; rw [hop]; exact .pure _
  · rename_i T x lo hi mx hop; rw [hop]; exact (Blind.sliceAt _ _ _ _ _).bind fun _ => .pure _
  · rename_i T x i hop; rw [hop]; exact (Blind.indexAt _ _ _).bind fun _ => .pure _
  · rename_i s x f hop; rw [hop]; exact (Blind.fieldAt h _).bind fun _ => .pure _
  · cases h
def PureAt (P : Program) (o : Oper) (a : Act) (v : Value) : Prop := ∀ w, (execOp a.eval o).run P w = .ok (.value v) w
theorem value_of {m : Sem Value} {w : World} {n : Next} {w' : World} (h : (do pure (.value (← m)) : Sem Next).run P w = .ok n w') : ∃ v, n = .value v := by
  rw [Sem.run_bind] at h
  cases hm : m.run P w with
  | ok y w1 => rw [hm, Result.andThen_ok, Sem.run_pure] at h; cases h; exact ⟨_, rfl⟩
  | halt y w1 => rw [hm] at h; cases h
theorem blindB_value {o : Oper} (h : blindB P o = true) {ρ : Operand → Value} {w : World} {n : Next} {w' : World} (hr : (execOp ρ o).run P w = .ok n w') : ∃ v, n = .value v := by
  unfold blindB at h
  unfold execOp at hr
  split at h
  · rename_i x hop; rw [hop] at hr; simp only [Sem.run_pure] at hr; cases hr; exact ⟨_, rfl⟩
  · rename_i T x lo hi mx hop; rw [hop] at hr; exact value_of hr
  · rename_i T x i hop; rw [hop] at hr; exact value_of hr
  · rename_i s x f hop; rw [hop] at hr; exact value_of hr
  · cases h
theorem blindB_sel {o : Oper} (h : blindB P o = true) (cs : Array SelectCase) (b : Bool) : o.op ≠ .select cs b := fun e => by
  unfold blindB at h
  rw [e] at h
  cases h
theorem PureAt.put {o oj : Oper} (hap : o.apart ops oj = true) (hs : ∀ cs b, o.op ≠ .select cs b) {a : Act} {v u : Value} (h : PureAt P o a v) : PureAt P o (a.put oj.dst u) v := fun w => by
  rw [execOp_put (ops := ops) o hs a oj.dst u (Oper.apart_spec hap).2.2]
  exact h w
theorem PureAt.defers {o : Oper} {a : Act} {v : Value} (h : PureAt P o a v) (ds : List Deferred) : PureAt P o { a with defers := ds } v := fun w => by
  have e : ({ a with defers := ds } : Act).eval = a.eval := funext (eval_defers a ds)
  rw [e]; exact h w
theorem wpOp_pure {j : Nat} {oi oj : Oper} {v : Value} (hj : ops[j]? = some oj) (hb : blindB P oi = true) (hap : oi.apart ops oj = true) (hsj : ∀ cs b, oj.op ≠ .select cs b) {K : Act → World → Prop} {a : Act} {w : World}
    (hv : PureAt P oi a v) (h : wpOp P ops (NQ R) j K (a.put oi.dst v) w) : wpOp P ops (NQ R) j (fun a' w' => PureAt P oi a' v ∧ K (a'.put oi.dst v) w') a w := by
  obtain ⟨h1, h2, h3⟩ := Oper.apart_spec hap
  have keep : ∀ u, PureAt P oi (a.put oj.dst u) v := fun u => hv.put hap (blindB_sel hb)
  have keep' : ∀ u ds, PureAt P oi (({ a with defers := ds } : Act).put oj.dst u) v := fun u ds => (hv.defers ds).put hap (blindB_sel hb)
  unfold wpOp at *
  simp only [hj] at *
  rw [wanted_put oj a oi.dst v h1] at h
  split
  · rename_i hw
    simp only [hw, if_true] at h
    refine .inl ?_
    rcases h with h | h
    · unfold Oper.wp at *
      rw [execOp_put oj hsj a oi.dst v h1] at h
      generalize (execOp a.eval oj).run P w = r at *
      cases r with
      | ok n w' =>
        cases n <;> simp only [Oper.upon] at h ⊢
        case value u => exact ⟨keep u, by rw [← Act.put_comm a v u h2]; exact h⟩
        case skip => exact ⟨keep _, by rw [← Act.put_comm a v undef h2]; exact h⟩
        case defer d =>
          refine ⟨keep' _ _, ?_⟩
          rw [put_defers', defers_put] at h
          rw [← Act.put_comm _ v undef h2]; exact h
        case enter f args =>
          refine h.mono fun e w'' hh => ?_
          cases e with
          | returned u => exact ⟨keep u, by rw [← Act.put_comm a v u h2]; exact hh⟩
          | panicked chain => exact absurd hh.1 (by simp)
          | outgrown => exact absurd hh NQ.out
        case row row args => exact h.mono fun u w'' hh => ⟨keep u, by rw [← Act.put_comm a v u h2]; exact hh⟩
      | halt y w' =>
        cases y <;> simp only [Oper.upon] at h ⊢
        exact absurd h.1 (by simp)
    · exact absurd h.2 NQ.out
  · rename_i hw
    simp only [hw] at h
    exact ⟨keep _, by rw [← Act.put_comm a v undef h2]; exact h⟩
theorem wpAny_pure {i : Nat} {oi : Oper} {v : Value} (hi : ops[i]? = some oi) (hb : blindB P oi = true) (hg : oi.guard = none) (hsel : ∀ (j : Nat) (o : Oper) cs b, ops[j]? = some o → o.op ≠ .select cs b) :
    ∀ (fuel : Nat) (listed : Array Bool) (a : Act) (w : World), PureAt P oi a v →
      (∀ j oj, ops[j]? = some oj → j ≠ i → listed.getD j true = false → (∀ e ∈ oj.after, Region.binds md e = true → e.on ≠ i) → oi.apart ops oj = true) →
      i ∈ Region.ready md ops listed →
      wpAny P md ops (NQ R) fuel (listed.setIfInBounds i true) (a.put oi.dst v) w → wpAny P md ops (NQ R) (fuel + 1) listed a w := by
  have one : ∀ (K : Act → World → Prop) (a : Act) (w : World), PureAt P oi a v → K (a.put oi.dst v) w → wpOp P ops (NQ R) i K a w := fun K a w hv h => by
    unfold wpOp
    simp only [hi]
    have hw : Region.wanted oi (yielded ops a.tmps) = true := by unfold Region.wanted; rw [hg]
    rw [if_pos hw]
    refine .inl ?_
    unfold Oper.wp
    rw [hv w, Oper.upon_value]
    exact h
  intro fuel
  induction fuel with
  | zero =>
    intro listed a w hv _ hr H
    refine ⟨fun h => (by rw [h] at hr; cases hr), fun j hj => ?_⟩
    by_cases hji : j = i
    · subst hji; exact one _ a w hv H
    · have := ready_mono hj hji
      rw [H.1] at this
      cases this
  | succ fuel ih =>
    intro listed a w hv hfree hr H
    refine ⟨fun h => (by rw [h] at hr; cases hr), fun j hj => ?_⟩
    by_cases hji : j = i
    · subst hji; exact one _ a w hv H
    · have h1 := H.2 j (ready_mono hj hji)
      obtain ⟨hjun, oj, hoj, hall⟩ := mem_ready.1 hj
      have hnot : ∀ e ∈ oj.after, Region.binds md e = true → e.on ≠ i := fun e he hb heq => by
        have h1 := hall e he hb
        have h0 := (mem_ready.1 hr).1
        rw [heq] at h1
        rcases Nat.lt_or_ge i listed.size with h' | h'
        · simp [h'] at h0 h1; rw [h0] at h1; cases h1
        · simp [Array.getElem?_eq_none h'] at h1
      have h2 := wpOp_pure hoj hb (hfree j oj hoj hji hjun hnot) (fun cs b => hsel j oj cs b hoj) hv h1
      have hfree' : ∀ k ok, ops[k]? = some ok → k ≠ i → (listed.setIfInBounds j true).getD k true = false →
          (∀ e ∈ ok.after, Region.binds md e = true → e.on ≠ i) → oi.apart ops ok = true := fun k ok hk hki hun hno => by
        refine hfree k ok hk hki ?_ hno
        by_cases hjk : j = k
        · subst hjk; exact hjun
        · rw [getD_set_ne true hjk] at hun; exact hun
      refine wpOp_mono (fun a' w' h3 => ih (listed.setIfInBounds j true) a' w' h3.1 hfree' (ready_mono hr (Ne.symm hji)) ?_) h2
      rw [Array.setIfInBounds_comm _ _ hji]
      exact h3.2
def puresB (P : Program) (ops : Array Oper) : List Nat → Array Bool → Bool
  | [], _ => true
  | m :: ms, l => ((ops[m]?).map (blindB P)).getD false && (Region.ready .any ops l).contains m && Region.free .any ops l m && puresB P ops ms (l.setIfInBounds m true)
theorem wpAny_pures (hng : ops.all (fun o => o.guard.isNone) = true) (hsel : ∀ (j : Nat) (o : Oper) cs b, ops[j]? = some o → o.op ≠ .select cs b) {Q : Act → Prop} {w : World} {fuel : Nat} :
    ∀ (ms : List Nat) (l : Array Bool) (a : Act), puresB P ops ms l = true → (∀ a', Q a' → wpAny P .any ops (NQ R) fuel (markL ms l) a' w) →
      wpStill P ops w Q (opsOf ops ms) a → wpAny P .any ops (NQ R) (ms.length + fuel) l a w
  | [], l, a, _, hk, h => by simpa [markL] using hk a h
  | m :: ms, l, a, hb, hk, h => by
    simp only [puresB, Bool.and_eq_true] at hb
    obtain ⟨⟨⟨b1, b2⟩, b3⟩, b4⟩ := hb
    have hmr : m ∈ Region.ready .any ops l := by simpa using b2
    obtain ⟨hm0, om, hom, hmall⟩ := mem_ready.1 hmr
    rw [hom] at b1
    have b1 : blindB P om = true := by simpa using b1
    have hmg : om.guard = none := opsOf_ng hng [m] om (by simp [opsOf, hom])
    have hcons : opsOf ops (m :: ms) = om :: opsOf ops ms := by simp [opsOf, hom]
    rw [hcons] at h
    unfold wpStill at h
    rw [if_pos (wanted_ng hmg _)] at h
    unfold Oper.still at h
    cases hx : (execOp a.eval om).run P w with
    | halt y w1 => rw [hx] at h; exact h.elim
    | ok n w1 =>
      obtain ⟨v, rfl⟩ := blindB_value b1 hx
      obtain ⟨rfl, hall⟩ := blindB_spec b1 a.eval w _ w1 hx
      rw [hx, Oper.stillUpon_value] at h
      have := wpAny_pures hng hsel ms (l.setIfInBounds m true) _ b4 hk h
      have e : (m :: ms).length + fuel = (ms.length + fuel) + 1 := by simp; omega
      rw [e]
      exact wpAny_pure hom b1 hmg hsel _ _ a _ hall (Region.free_spec hom b3) hmr this
theorem SW.regXP {id : Nat} {l : List Oper} {Q : Exit → St → Prop} (n : Nat) (H : List SObj) (ll : List (Nat × SV)) (ms : List Nat) (d M : Nat) (hm : P.follows .mixedOrders = true)
    (hB : (Region.noSelect l.toArray && l.toArray.all (fun o => o.guard.isNone) && puresB P l.toArray ms (Array.replicate l.toArray.size false) && decide (l.toArray.size = ms.length + d) && decide ((opsOf l.toArray ms).length = ms.length)) = true)
    (hM : markL ms (Array.replicate l.toArray.size false) = lstM l.toArray.size M)
    (h : ∀ X : Nat → Nat → St → Prop, (X = fun d m s => OX P pu l.toArray d m s (sp n ll H)) → OBk P (opsOf l.toArray ms).toArray ms.length 0 st (fun st1 => X d M st1)) (hq : Q .normal (sp n ll H)) : SW P pu (.region id l.toArray true) st Q := by
  have h := h _ rfl
  generalize hops : l.toArray = ops at *
  simp only [Bool.and_eq_true, decide_eq_true_eq] at hB
  obtain ⟨⟨⟨⟨b1, b2⟩, b3⟩, b4⟩, b5⟩ := hB
  intro a w g hr
  refine Code.wp_mono (Q := NQ fun a' w' => ∃ st' g', Q .normal st' ∧ Rel st' a' w' g' ∧ Fr pu g w g' w') (fun e a' w' hh => by obtain ⟨rfl, hh⟩ := hh; exact hh) ?_
  refine wp_region_any hm ?_
  have hl1 : (opsOf ops ms).toArray.toList.take ms.length = opsOf ops ms := by simp [← b5]
  unfold OBk at h
  rw [List.drop_zero, hl1] at h
  have key := h a w.drew g hr.drew (fun a' => wpAny P .any ops (NQ fun a' w' => ∃ st' g', Q .normal st' ∧ Rel st' a' w' g' ∧ Fr pu g w g' w') d (lstM ops.size M) a' w.drew) (fun st1 a1 g1 q1 r1 f1 =>
    q1 a1 w.drew g1 r1 _ fun a' w' g' r f => ⟨sp n ll H, g', hq, r, (Fr.drew.trans (f1 pu)).trans f⟩)
  have key := wpStill_ng (ops := ops) (opsOf_ng b2 ms) key
  rw [b4]
  rw [b4] at hM key
  refine wpAny_pures b2 (Region.noSelect_spec b1) (Q := fun a' => wpAny P .any ops (NQ fun a' w' => ∃ st' g', Q .normal st' ∧ Rel st' a' w' g' ∧ Fr pu g w g' w') d (lstM (ms.length + d) M) a' w.drew) ms _ a (by rw [← b4]; exact b3) (fun a' ha' => ?_) key
  rw [hM]
  exact ha'
end
end Go.Sh
