/- The rest of the operations that only read, and bop_sound. -/
import Derived.Test.YtjkhgfoecplbgaaSh6
import Derived.Laws.BytesArg
set_option linter.all false
set_option autoImplicit true
set_option relaxedAutoImplicit true
namespace Go.Sh
set_option linter.unusedSimpArgs false

section
variable {P : Program} {st : St} {a : Act} {w : World} {g : Gh}

theorem mk_toList (l : List UInt8) : (mk l).toList = l := by rw [ByteArray.toList_eq]; rfl

theorem mk_append (x y : List UInt8) : mk x ++ mk y = mk (x ++ y) := by
  apply ByteArray.ext
  simp [mk, ByteArray.data_append]

theorem valD_leaf (h : Rel st a w g) {x : Operand} {d : D} {u : Value} (hv : valD st x = some d) (hl : leafV d = some u) : a.eval x = u := leafV_rd hl (valD_d h hv)

theorem backD_rd {s : Sem Value} {d : D} (hv : backD (leafRun P s) = some d) : ∃ v, Rd g w v d ∧ ∀ w', s.run P w' = .ok v w' := by
  simp only [backD, Option.bind_eq_some_iff] at hv
  obtain ⟨v, h1, h2⟩ := hv
  exact ⟨v, leafD_rd h2, leafRun_run h1⟩

theorem strOp_sound {op : BinOp} {T : TypeId} {x y : Operand} {p q : List UInt8} {d : D}
    (hv : (if op matches .add then (if p.length + q.length ≤ maxLen then some (D.str (p ++ q)) else none) else (boolOp op (p == q) (Op.bytesLess p q)).map .bool) = some d) :
    ∃ v, Rd g w v d ∧ ∀ w', (do eqGuard op T x y (.string (mk p)) (.string (mk q)); binOp op T (.string (mk p)) (.string (mk q)) : Sem Value).run P w' = .ok v w' := by
  have hg : eqGuard op T x y (.string (mk p)) (.string (mk q)) = pure () := eqGuard_at_string op T x y (.string (mk q)) (mk p)
  cases op <;> simp only [Bool.false_eq_true, if_false, if_true, boolOp, Option.map_some, Option.map_none, Option.some.injEq, reduceCtorEq] at hv
  case add =>
    split at hv
    · rename_i hle
      cases hv
      refine ⟨.string (mk (p ++ q)), .str, fun w' => ?_⟩
      have hle' : ¬ (((mk p).size + (mk q).size : Nat) : Int) > IntKind.i64.max := by
        rw [mk_size, mk_size, IntKind.max_i64]
        unfold maxLen at hle
        omega
      rw [hg]
      simp only [binOp, Op.stringOp, Sem.run_bind, Sem.run_pure, Result.andThen_ok]
      rw [if_neg hle', mk_append]
      rfl
    · cases hv
  all_goals
    subst hv
    refine ⟨_, .bool, fun w' => ?_⟩
    rw [hg]
    simp only [binOp, Op.stringOp, mk_toList, Sem.run_bind, Sem.run_pure, Result.andThen_ok]

theorem eqLeaf_sound {T : TypeId} {x y : D} {r : Bool} (hv : eqLeaf (P.underlying T) x y = some r) {u v : Value} (hx : Rd g w u x) (hy : Rd g w v y) (d : Nat) (w' : World) :
    (Op.equalIn (d + 1) T u v).run P w' = .ok r w' ∧ isAggT P T = false ∧ (P.underlying T).isNone = false := by
  cases hu : P.underlying T with
  | none => rw [hu] at hv; cases x <;> cases y <;> simp [eqLeaf] at hv
  | some t =>
    rw [hu] at hv
    cases t <;> cases x <;> cases y <;> simp only [eqLeaf, reduceCtorEq] at hv
    case bool.bool.bool a b =>
      cases hx; cases hy; cases hv
      exact ⟨run_equalIn_bool' w' d T _ _ hu, by simp [isAggT, hu], rfl⟩
    case int.int.int k0 k a k' b =>
      split at hv
      · rename_i hk
        subst hk
        cases hx; cases hy; cases hv
        exact ⟨run_equalIn_int w' d T _ _ _ _ hu, by simp [isAggT, hu], rfl⟩
      · cases hv
    case string.str.str a b =>
      cases hx; cases hy; cases hv
      refine ⟨?_, by simp [isAggT, hu], rfl⟩
      rw [run_equalIn_string w' d T _ _ hu, mk_toList, mk_toList]

theorem eqFs_sound (d : Nat) (w' : World) {us vs : Array Value} : ∀ (fs : List Field) (i : Nat) (xs ys : List D) (r : Bool), eqFs P i fs xs ys = some r →
    (∀ (j : Nat) (y : D), xs[j]? = some y → ∃ u, us[i + j]? = some u ∧ Rd g w u y) → (∀ (j : Nat) (y : D), ys[j]? = some y → ∃ u, vs[i + j]? = some u ∧ Rd g w u y) →
    (Op.eqFields (d + 1) us vs fs).run P w' = .ok r w'
  | [], i, xs, ys, r, h, _, _ => by
    cases xs <;> cases ys <;> simp [eqFs] at h
    subst h; simp [Op.eqFields]
  | f :: fs, i, [], ys, r, h, _, _ => by cases ys <;> simp [eqFs] at h
  | f :: fs, i, x :: xs, [], r, h, _, _ => by simp [eqFs] at h
  | f :: fs, i, x :: xs, y :: ys, r, h, hx, hy => by
    simp only [eqFs] at h
    split at h
    · rename_i hc
      simp only [Bool.and_eq_true, bne_iff_ne, beq_iff_eq] at hc
      obtain ⟨hn, ho⟩ := hc
      split at h
      · rename_i p q h1 h2
        cases h
        obtain ⟨u, hu1, hu2⟩ := hx 0 x (by simp)
        obtain ⟨v, hv1, hv2⟩ := hy 0 y (by simp)
        simp only [Nat.add_zero] at hu1 hv1
        obtain ⟨e1, e2, e3⟩ := eqLeaf_sound h1 hu2 hv2 d w'
        have ih := eqFs_sound d w' (us := us) (vs := vs) fs (i + 1) xs ys q h2 (fun j z hz => by have := hx (j + 1) z (by simpa using hz); rwa [show i + (j + 1) = i + 1 + j by omega] at this)
          (fun j z hz => by have := hy (j + 1) z (by simpa using hz); rwa [show i + (j + 1) = i + 1 + j by omega] at this)
        have p1 : (part f.type us f.offset).run P w' = .ok u w' := by simp [part, run_isAgg' e3, e2, ho, hu1]
        have p2 : (part f.type vs f.offset).run P w' = .ok v w' := by simp [part, run_isAgg' e3, e2, ho, hv1]
        simp only [Op.eqFields, if_pos hn, Sem.run_bind, p1, p2, e1, Result.andThen_ok]
        cases p <;> simp [ih]
      · cases h
    · cases h

theorem isStrT_eq {T : TypeId} (h : isStrT P T = true) : P.underlying T = some .string := by
  unfold isStrT at h
  split at h
  · assumption
  · cases h

theorem aggEq_sound {T : TypeId} {xs ys : List D} {r : Bool} (hv : eqAgg P T xs ys = some r) {u v : Value} (hx : Rd g w u (.agg xs)) (hy : Rd g w v (.agg ys)) (x y : Operand) (w' : World) :
    (do eqGuard .eql T x y u v; binOp .eql T u v : Sem Value).run P w' = .ok (.bool r) w' ∧ (do eqGuard .neq T x y u v; binOp .neq T u v : Sem Value).run P w' = .ok (.bool !r) w' := by
  unfold eqAgg at hv
  split at hv
  · rename_i fs hu
    split at hv
    · rename_i hc
      simp only [Bool.and_eq_true, Bool.not_eq_true'] at hc
      obtain ⟨h1, h2⟩ := hc
      cases hx with
      | agg hl us hc hr =>
        cases hy with
        | agg hl' us' hc' hr' =>
          have hf : P.fieldsOf T = fs := by simp [Program.fieldsOf, hu]
          have hs := eqFs_sound 9998 w' fs.toList 0 xs ys r hv (fun j z hz => ⟨us j, by simpa using (hc j z hz).1, hr j z hz⟩) (fun j z hz => ⟨us' j, by simpa using (hc' j z hz).1, hr' j z hz⟩)
          refine ⟨?_, ?_⟩
          · simp only [Sem.run_bind, run_eqGuard_agg w' _ T x y _ _ h2, Result.andThen_ok, run_eql_struct, run_equalIn_struct (P := P) w' 9999 T _ _ (by rw [hf]; exact hu) h1, hf, hs]
          · simp only [Sem.run_bind, run_eqGuard_agg w' _ T x y _ _ h2, Result.andThen_ok, run_neq_struct, run_equalIn_struct (P := P) w' 9999 T _ _ (by rw [hf]; exact hu) h1, hf, hs]
    · cases hv
  · cases hv



/-- The kind of a value that is not nil, and of one that is. -/
def someKV : Value → Nat
  | .pointer (some _) => 1
  | .iface _ _ => 2
  | .func _ _ _ => 3
  | .map (some _) => 4
  | _ => 0
def nilKV : Value → Nat
  | .pointer none => 1
  | .nilIface => 2
  | .nilFunc => 3
  | .map none => 4
  | _ => 0

theorem someK_v (h : Rel st a w g) {x : Operand} {s : SV} (hv : val st x = some s) (hs : someK s ≠ 0) : someKV (a.eval x) = someK s := by
  cases s with
  | d d =>
    have := val_d h hv
    generalize a.eval x = v at this
    cases this <;> simp [someK, someKV] at hs ⊢
  | loc s off =>
    cases x with
    | tmp t => obtain ⟨-, k, -, e⟩ := h.rs hv; rw [e]; rfl
    | const v => simp [val] at hv
    | func f => simp [val] at hv
    | global f => simp [val] at hv
  | lptr l cs =>
    cases x with
    | tmp t => obtain ⟨k, off, c, T0, fz, us, e, -⟩ := h.rs hv; rw [e]; rfl
    | const v => simp [val] at hv
    | func f => simp [val] at hv
    | global f => simp [val] at hv
  | box cs =>
    cases x with
    | tmp t => obtain ⟨k, c, T0, e, -⟩ := h.rs hv; rw [e]; rfl
    | const v => simp [val] at hv
    | func f => simp [val] at hv
    | global f => simp [val] at hv
  | _ => simp [someK] at hs

theorem nilK_v (h : Rel st a w g) {x : Operand} {d : D} (hv : valD st x = some d) (hs : nilK d ≠ 0) : nilKV (a.eval x) = nilK d := by
  have := valD_d h hv
  generalize a.eval x = v at this
  cases this <;> simp [nilK, nilKV] at hs ⊢

theorem equalIn_nil (d : Nat) (w' : World) {T : TypeId} {u v : Value} (h1 : someKV u = typK P T) (h2 : nilKV v = typK P T) :
    (Op.equalIn (d + 1) T u v).run P w' = .ok false w' ∧ (Op.equalIn (d + 1) T v u).run P w' = .ok false w' := by
  unfold typK at h1 h2
  cases hu : P.underlying T with
  | none => rw [hu] at h1; unfold someKV at h1; split at h1 <;> simp at h1
  | some t =>
    rw [hu] at h1 h2
    unfold someKV at h1
    unfold nilKV at h2
    cases t <;> simp only [] at h1 h2 <;> (split at h1 <;> simp at h1) <;> (split at h2 <;> simp at h2) <;>
      (refine ⟨?_, ?_⟩ <;> (unfold Op.equalIn; simp [run_underlying hu]))

theorem eqNil (w' : World) {T : TypeId} {u v : Value} (h1 : someKV u = typK P T) (h2 : nilKV v = typK P T) :
    (Op.equal T u v).run P w' = .ok false w' ∧ (Op.equal T v u).run P w' = .ok false w' ∧
    (∀ op ox oy, eqGuard op T ox oy u v = pure () ∧ eqGuard op T ox oy v u = pure ()) ∧
    (binOp .eql T u v = (do pure (.bool (← Op.equal T u v)) : Sem Value) ∧ binOp .neq T u v = (do pure (.bool (!(← Op.equal T u v))) : Sem Value) ∧
      binOp .eql T v u = (do pure (.bool (← Op.equal T v u)) : Sem Value) ∧ binOp .neq T v u = (do pure (.bool (!(← Op.equal T v u))) : Sem Value)) := by
  obtain ⟨e1, e2⟩ := equalIn_nil 9999 w' h1 h2
  refine ⟨e1, e2, ?_⟩
  have hne : typK P T ≠ 0 := by unfold typK; split <;> simp
  rw [← h1] at hne h2
  unfold someKV at hne h2
  unfold nilKV at h2
  split at hne <;> simp at hne <;> (split at h2 <;> simp at h2) <;> exact ⟨fun op ox oy => ⟨by cases op <;> rfl, by cases op <;> rfl⟩, rfl, rfl, rfl, rfl⟩

theorem nilEq_sound (h : Rel st a w g) {T : TypeId} {x y : Operand} (hv : nilEq P st T x y = true) (ox oy : Operand) (w' : World) :
    (do eqGuard .eql T ox oy (a.eval x) (a.eval y); binOp .eql T (a.eval x) (a.eval y) : Sem Value).run P w' = .ok (.bool false) w' ∧
    (do eqGuard .neq T ox oy (a.eval x) (a.eval y); binOp .neq T (a.eval x) (a.eval y) : Sem Value).run P w' = .ok (.bool true) w' ∧
    (do eqGuard .eql T ox oy (a.eval y) (a.eval x); binOp .eql T (a.eval y) (a.eval x) : Sem Value).run P w' = .ok (.bool false) w' ∧
    (do eqGuard .neq T ox oy (a.eval y) (a.eval x); binOp .neq T (a.eval y) (a.eval x) : Sem Value).run P w' = .ok (.bool true) w' := by
  unfold nilEq at hv
  split at hv
  · rename_i s d h1 h2
    simp only [Bool.and_eq_true, beq_iff_eq] at hv
    obtain ⟨e1, e2⟩ := hv
    have hne : typK P T ≠ 0 := by unfold typK; split <;> simp
    have a1 := someK_v h h1 (by rw [e1]; exact hne)
    have a2 := nilK_v h h2 (by rw [e2]; exact hne)
    obtain ⟨b1, b2, b3, b4⟩ := eqNil (P := P) w' (a1.trans e1) (a2.trans e2)
    obtain ⟨c1, c2, c3, c4⟩ := b4
    refine ⟨?_, ?_, ?_, ?_⟩
    · simp only [(b3 .eql ox oy).1, Sem.run_bind, Sem.run_pure, Result.andThen_ok, c1, b1]
    · simp only [(b3 .neq ox oy).1, Sem.run_bind, Sem.run_pure, Result.andThen_ok, c2, b1]; rfl
    · simp only [(b3 .eql ox oy).2, Sem.run_bind, Sem.run_pure, Result.andThen_ok, c3, b2]
    · simp only [(b3 .neq ox oy).2, Sem.run_bind, Sem.run_pure, Result.andThen_ok, c4, b2]; rfl
  · cases hv

theorem binS_sound (h : Rel st a w g) {op : BinOp} {T : TypeId} {x y : Operand} {d : D} (hv : binS P st op T x y = some d) :
    ∃ v, Rd g w v d ∧ ∀ w', (do eqGuard op T x y (a.eval x) (a.eval y); binOp op T (a.eval x) (a.eval y) : Sem Value).run P w' = .ok v w' := by
  unfold binS at hv
  split at hv
  · rename_i p q h1 h2
    rw [valD_leaf h h1 rfl, valD_leaf h h2 rfl]
    exact strOp_sound hv
  · rename_i p q h1 h2
    have r1 := valD_d h h1
    have r2 := valD_d h h2
    split at hv
    · rename_i r h3
      cases hv
      exact ⟨_, .bool, fun w' => (aggEq_sound h3 r1 r2 x y w').1⟩
    · rename_i r h3
      cases hv
      exact ⟨_, .bool, fun w' => (aggEq_sound h3 r1 r2 x y w').2⟩
    · cases hv
  · split at hv
    · rename_i u v h1 h2
      simp only [Option.bind_eq_some_iff] at h1 h2
      obtain ⟨d1, f1, f2⟩ := h1
      obtain ⟨d2, f3, f4⟩ := h2
      rw [valD_leaf h f1 f2, valD_leaf h f3 f4]
      exact backD_rd hv
    · split at hv
      · rename_i hn
        rw [Bool.or_eq_true] at hn
        rcases hn with hn | hn
        · split at hv
          · cases hv; exact ⟨_, .bool, fun w' => (nilEq_sound h hn x y w').1⟩
          · cases hv; exact ⟨_, .bool, fun w' => (nilEq_sound h hn x y w').2.1⟩
          · cases hv
        · split at hv
          · cases hv; exact ⟨_, .bool, fun w' => (nilEq_sound h hn x y w').2.2.1⟩
          · cases hv; exact ⟨_, .bool, fun w' => (nilEq_sound h hn x y w').2.2.2⟩
          · cases hv
      · cases hv

theorem unS_sound (h : Rel st a w g) {op : UnOp} {x : Operand} {d : D} (hv : unS P st op x = some d) : ∃ v, Rd g w v d ∧ ∀ w', (Op.unary op (a.eval x)).run P w' = .ok v w' := by
  unfold unS at hv
  split at hv
  · rename_i u h1
    simp only [Option.bind_eq_some_iff] at h1
    obtain ⟨d1, f1, f2⟩ := h1
    rw [valD_leaf h f1 f2]
    exact backD_rd hv
  · cases hv

theorem bytesOf_get : ∀ {xs : List D} {bs : List UInt8}, bytesOf xs = some bs → ∃ ns : List Int, ns.length = xs.length ∧ bs = ns.map (fun n => UInt8.ofNat n.toNat) ∧ ∀ (i : Nat) (x : D), xs[i]? = some x → x = .int .u8 (ns.getD i 0)
  | [], bs, h => by simp [bytesOf] at h; subst h; exact ⟨[], rfl, rfl, by simp⟩
  | x :: xs, bs, h => by
    cases x with
    | int k n =>
      cases k <;> simp only [bytesOf, reduceCtorEq, Option.map_eq_some_iff] at h
      obtain ⟨bs', h1, rfl⟩ := h
      obtain ⟨ns, e1, e2, e3⟩ := bytesOf_get h1
      refine ⟨n :: ns, by simp [e1], by simp [e2], fun i x hx => ?_⟩
      cases i with
      | zero => simpa [eq_comm] using hx
      | succ i => simpa using e3 i x (by simpa using hx)
    | _ => simp [bytesOf] at h

theorem isBytesT_eq {T : TypeId} (h : isBytesT P T = true) : ∃ e, P.underlying T = some (.slice e) ∧ P.underlying e = some (.int .u8) := by
  unfold isBytesT at h
  split at h
  · rename_i e he
    split at h
    · exact ⟨e, he, by assumption⟩
    · cases h
  · cases h

theorem bytesS_sound (h : Rel st a w g) {src dst : TypeId} {x : Operand} {d : D} (hv : bytesS P st src dst x = some d) : ∃ v, Rd g w v d ∧ ∀ w', Up w w' → (convert src dst (a.eval x)).run P w' = .ok v w' := by
  unfold bytesS at hv
  split at hv
  · rename_i hT
    rw [Bool.and_eq_true] at hT
    obtain ⟨e, hs, he⟩ := isBytesT_eq hT.1
    have hd := isStrT_eq hT.2
    split at hv
    · rename_i l n xs hl
      split at hv
      · rename_i hn
        simp only [Option.map_eq_some_iff] at hv
        obtain ⟨bs, hb, rfl⟩ := hv
        obtain ⟨ns, e1, rfl, e3⟩ := bytesOf_get hb
        refine ⟨_, .str, fun w' hw => ?_⟩
        rcases listOf_sound h hl with ⟨rfl, a0, cap, f1⟩ | ⟨k, off, cap, c, T0, fz, us, f1, f2, f3, f4, f5, f6, f7⟩
        · have : ns = [] := by simpa using e1
          subst this
          rw [f1]
          cases a0 with
          | none => exact run_convert_bytes_nil w' src e hs he 0 cap dst hd
          | some a0 =>
            rw [run_convert_bytes_string w' src dst e _ 0 cap hs he hd]
            simp [Conv.bytesToString, loadCells, loadCellsFrom, mk]
            rfl
        · rw [f1]
          have h1 : n = 1 ∨ xs.length = 0 := by
            rcases hn with hn | hn
            · exact .inl hn
            · right; simpa using hn
          rw [run_convert_bytes_arg w' src e hs he k off xs.length cap ns e1 (fun i hi => ?_) dst hd]
          · rfl
          · have hx : xs[i]? = some xs[i] := by simp [hi]
            have hn1 : n = 1 := by omega
            subst hn1
            have hi' := e3 i _ hx
            have hc := (f6 i _ hx 0 (.int .u8 (ns.getD i 0)) (by rw [hi']; rfl)).1
            have hr := f7 i _ hx 0 (.int .u8 (ns.getD i 0)) (by rw [hi']; rfl)
            generalize us i 0 = u at hc hr
            cases hr
            rw [cell_blk (hw _ _ f3)]
            simpa using hc
      · cases hv
    · cases hv
  · cases hv

theorem convS_sound (h : Rel st a w g) {src dst : TypeId} {x : Operand} {d : D} (hv : convS P st src dst x = some d) : ∃ v, Rd g w v d ∧ ∀ w', Up w w' → (convert src dst (a.eval x)).run P w' = .ok v w' := by
  unfold convS at hv
  split at hv
  · rename_i u h1
    simp only [Option.bind_eq_some_iff] at h1
    obtain ⟨d1, f1, f2⟩ := h1
    rw [valD_leaf h f1 f2]
    obtain ⟨v, e1, e2⟩ := backD_rd (g := g) (w := w) hv
    exact ⟨v, e1, fun w' _ => e2 w'⟩
  · exact bytesS_sound h hv

theorem indexOp_sound (h : Rel st a w g) {T : TypeId} {x i : Operand} {d : D} (hv : indexOp P st T x i = some d) :
    ∃ v, Rd g w v d ∧ ∀ w', (Instr.index T (a.eval x) (a.eval i)).run P w' = .ok v w' := by
  unfold indexOp at hv
  split at hv
  · rename_i l k j h1 h2
    have e1 := valD_leaf h h1 rfl
    have e2 := intOf_sound h h2
    split at hv
    · rename_i hc
      obtain ⟨hu, h0⟩ := hc
      have hu := isStrT_eq hu
      simp only [Option.map_eq_some_iff] at hv
      obtain ⟨b, hb, rfl⟩ := hv
      have hlt := get_lt hb
      refine ⟨_, .int, fun w' => ?_⟩
      rw [e1, e2, run_index_string w' T _ k j hu, dif_pos ⟨h0, by rw [mk_size]; omega⟩]
      congr 3
      have : (mk l)[j.toNat]'(by rw [mk_size]; omega) = b := by
        have : l[j.toNat]'hlt = b := by rw [List.getElem?_eq_getElem hlt] at hb; exact Option.some.inj hb
        rw [← this]; rfl
      rw [this]
    · cases hv
  · rename_i cs k j h1 h2
    have r1 := valD_d h h1
    have e2 := intOf_sound h h2
    split at hv
    · rename_i n e hu
      split at hv
      · rename_i hc
        obtain ⟨hz, h0, hn⟩ := hc
        rw [e2]
        generalize a.eval x = v at r1
        cases r1 with
        | agg hl us hc hr =>
          obtain ⟨u, hu1, hu2⟩ := partD_sound hv (Rd.agg hl us hc hr)
          exact ⟨u, hu1, fun w' => by simp [Instr.index, asIntOf, run_underlying hu, h0, hn, sizeOf_ne hz, hu2]⟩
      · cases hv
    · cases hv
  · cases hv

theorem fieldOp_sound (h : Rel st a w g) {T : TypeId} {x : Operand} {f : Nat} {d : D} (hv : fieldOp P st T x f = some d) :
    ∃ v, Rd g w v d ∧ ∀ w', (Instr.field T (a.eval x) f).run P w' = .ok v w' := by
  unfold fieldOp at hv
  split at hv
  · rename_i cs fs h1 hu
    split at hv
    · rename_i fl hfl
      have r1 := valD_d h h1
      generalize a.eval x = v at r1
      cases r1 with
      | agg hl us hc hr =>
        obtain ⟨u, hu1, hu2⟩ := partD_sound hv (Rd.agg hl us hc hr)
        exact ⟨u, hu1, fun w' => by simp [Instr.field, run_underlying hu, hfl, asAgg, hu2]⟩
    · cases hv
  · cases hv

theorem bnd_sound (h : Rel st a w g) {dflt n : Nat} {x : Option Operand} (hv : bnd st dflt x = some n) :
    (x = none ∧ n = dflt) ∨ ∃ o k j, x = some o ∧ a.eval o = .int k j ∧ 0 ≤ j ∧ n = j.toNat := by
  unfold bnd at hv
  split at hv
  · cases hv; exact .inl ⟨rfl, rfl⟩
  · rename_i o
    split at hv
    · rename_i k j hi
      split at hv
      · rename_i h0
        cases hv
        exact .inr ⟨o, k, j, rfl, intOf_sound h hi, h0, rfl⟩
      · cases hv
    · cases hv

/-- The bounds of a slice expression that fits. -/
theorem bounds_run (h : Rel st a w g) {sl : Bool} {len cap i j : Nat} {lo hi : Option Operand} (h1 : bnd st 0 lo = some i) (h2 : bnd st len hi = some j) (hij : i ≤ j) (hj : j ≤ len) (hc : len ≤ cap) (w' : World) :
    (Instr.sliceBounds sl len cap (lo.map a.eval) (hi.map a.eval) none).run P w' = .ok (i, j, cap) w' := by
  rcases bnd_sound h h1 with ⟨rfl, rfl⟩ | ⟨o1, k1, j1, rfl, e1, f1, rfl⟩ <;> rcases bnd_sound h h2 with ⟨rfl, rfl⟩ | ⟨o2, k2, j2, rfl, e2, f2, rfl⟩
  · simp [Instr.sliceBounds]
  · have : j2 ≤ (cap : Int) := by omega
    simp [Instr.sliceBounds, e2, run_sliceBound w' k2 j2 cap _ f2 this]
  · have : j1 ≤ (j : Int) := by omega
    simp [Instr.sliceBounds, e1, run_sliceBound w' k1 j1 j _ f1 this]
  · have : j2 ≤ (cap : Int) := by omega
    have : j1 ≤ (j2.toNat : Int) := by omega
    simp [Instr.sliceBounds, e1, e2, run_sliceBound w' k2 j2 cap _ f2 (by omega), run_sliceBound w' k1 j1 j2.toNat _ f1 this]

theorem elem_of {T e : TypeId} (h : P.underlying T = some (.slice e)) : P.elem T = e := by simp [Program.elem, h]

theorem sliceOp_sound (h : Rel st a w g) {T : TypeId} {x : Operand} {lo hi mx : Option Operand} {s : SV} (hv : sliceOp P st T x lo hi mx = some s) :
    ∃ v, Light g w v s ∧ ∀ w', (Instr.sliceAt T (a.eval x) (lo.map a.eval) (hi.map a.eval) (mx.map a.eval)).run P w' = .ok v w' := by
  unfold sliceOp at hv
  split at hv
  · rename_i hmx
    split at hv
    · rename_i hc
      cases hv
      simp only [Bool.and_eq_true, bne_iff_ne, Option.isNone_iff_eq_none] at hc
      obtain ⟨⟨⟨⟨rfl, hhi⟩, hm⟩, hz⟩, hls⟩ := hc
      obtain ⟨⟨l, n, xs⟩, hl⟩ := Option.isSome_iff_exists.1 hls
      have zero : ∀ x, isZero st x = true → ∃ o k, x = some o ∧ a.eval o = .int k 0 := fun x hx => by
        unfold isZero at hx
        split at hx
        · rename_i o
          split at hx
          · rename_i k j hj
            have : j = 0 := by simpa using hx
            subst this
            exact ⟨o, k, rfl, intOf_sound h hj⟩
          · cases hx
        · cases hx
      obtain ⟨o1, k1, rfl, e1⟩ := zero _ hhi
      obtain ⟨o2, k2, rfl, e2⟩ := zero _ hm
      obtain ⟨e, hu, he⟩ := elemW_ne hz
      have hue : P.underlying T = some (.slice (P.elem T)) := by rw [elem_of hu]; exact hu
      have hsz : ∀ w', (sizeOf (P.elem T)).run P w' = .ok (P.cellsOf e) w' := fun w' => by rw [elem_of hu]; exact sizeOf_ne (by rw [← he]; exact hz) w'
      have hsl : ∃ a0 len cap, a.eval x = .slice a0 len cap := by
        rcases listOf_sound h hl with ⟨-, a0, cap, e⟩ | ⟨k, off, cap, c, T0, fz, us, e, -⟩
        · exact ⟨_, _, _, e⟩
        · exact ⟨_, _, _, e⟩
      obtain ⟨a0, len, cap, ex⟩ := hsl
      refine ⟨sliced a0 0 0 0 (P.cellsOf e), Rd.nilS, fun w' => ?_⟩
      rw [run_sliceAt_slice w' T _ _ _ _ hue, ex, Option.map_some, Option.map_some, e1, e2, Option.map_none, run_slice_hm w' T a0 len cap hue k1 k2 0 0 (by omega) (by omega) (by omega)]
      simp [hsz]
    · cases hv
  · rename_i hmx
    have hmx : mx = none := by cases mx <;> simp at hmx ⊢
    subst hmx
    split at hv
    · rename_i l h1
      have e1 := valD_leaf h h1 rfl
      split at hv
      · rename_i i j b1 b2
        split at hv
        · rename_i hc
          obtain ⟨hu, hij, hj⟩ := hc
          cases hv
          have hu := isStrT_eq hu
          refine ⟨.string (mk ((l.take j).drop i)), Rd.str, fun w' => ?_⟩
          rw [run_sliceAt_string w' T _ _ _ _ hu, e1]
          have hb := bounds_run (P := P) h (sl := false) (cap := l.length) b1 b2 hij hj (Nat.le_refl _) w'
          have : (mk l).extract i j = mk ((l.take j).drop i) := by
            apply ByteArray.ext
            simp [mk, ByteArray.data_extract, List.drop_take]
          simp [Instr.slice, run_underlying hu, mk_size, hb, this]
        · cases hv
      · cases hv
    · split at hv
      · rename_i l n xs hl
        split at hv
        · rename_i i j b1 b2
          split at hv
          · rename_i hc
            obtain ⟨hz, hn, hij, hj⟩ := hc
            cases hv
            obtain ⟨e, hu, he⟩ := elemW_ne hz
            have hue : P.underlying T = some (.slice (P.elem T)) := by rw [elem_of hu]; exact hu
            have hsz : ∀ w', (sizeOf (P.elem T)).run P w' = .ok (P.cellsOf e) w' := fun w' => by rw [elem_of hu]; exact sizeOf_ne (by rw [← he]; exact hz) w'
            rcases listOf_sound h hl with ⟨rfl, a0, cap, e1⟩ | ⟨k, off, cap, c, T0, fz, us, e1, e2, e3, e4, e5, e6, e7⟩
            · have hj0 : j = 0 := by simpa using hj
              subst hj0
              have hi0 : i = 0 := by omega
              subst hi0
              have hb := bounds_run (P := P) h (sl := true) (len := 0) (cap := cap) b1 b2 (Nat.le_refl _) (Nat.le_refl _) (Nat.zero_le _)
              refine ⟨sliced a0 0 0 cap (P.cellsOf e), lendL_light (.inl ⟨by simp, _, _, rfl⟩), fun w' => ?_⟩
              rw [run_sliceAt_slice w' T _ _ _ _ hue, e1, run_slice_any w' T a0 0 cap hue]
              simp [hb, hsz]
            · have hb := bounds_run (P := P) h (sl := true) (len := xs.length) (cap := cap) b1 b2 hij hj e4
              refine ⟨sliced (some ⟨k, off, none⟩) i j cap (P.cellsOf e), lendL_light ?_, fun w' => ?_⟩
              · by_cases hji : j = i
                · subst hji
                  refine .inl ⟨by simp, (if cap = j then some ⟨k, off, none⟩ else (some (⟨k, off, none⟩ : Addr)).map (·.add (j * P.cellsOf e))), cap - j, ?_⟩
                  unfold sliced
                  rw [Nat.sub_self]
                · have hn' : n = P.cellsOf e := by
                    rcases hn with hn | hn
                    · rw [hn, he]
                    · simp at hn; subst hn; simp at hj; omega
                  subst hn'
                  have hci : cap ≠ i := by omega
                  refine .inr ⟨k, off + i * P.cellsOf e, cap - i, c, T0, fz, fun m => us (i + m), ?_, e2, e3, ?_, fun m y hy => ?_, fun m y hy p z hz => ?_, fun m y hy p z hz => ?_⟩
                  · simp [sliced, hci, Addr.add_lit, Nat.min_eq_left hj]
                  · simp [Nat.min_eq_left hj]; omega
                  all_goals
                    rw [List.getElem?_drop, List.getElem?_take] at hy
                    split at hy
                    · first
                        | exact e5 _ y hy
                        | exact e7 _ y hy p z hz
                        | (have := e6 _ y hy p z hz
                           rw [show off + i * P.cellsOf e + m * P.cellsOf e + p = off + (i + m) * P.cellsOf e + p by rw [Nat.add_mul]; omega]
                           exact this)
                    · cases hy
              · rw [run_sliceAt_slice w' T _ _ _ _ hue, e1, run_slice_any w' T _ _ cap hue]
                simp [hb, hsz]
          · cases hv
        · cases hv
      · cases hv

theorem lenOp_sound (h : Rel st a w g) {T ty : TypeId} {x : Operand} {d : D} (hv : lenOp P st T x = some d) :
    ∃ v, Rd g w v d ∧ ∀ w', (Builtin.len_ #[T] ty #[a.eval x]).run P w' = .ok v w' := by
  unfold lenOp at hv
  split at hv
  · rename_i l h1
    split at hv
    · rename_i hu
      cases hv
      exact ⟨_, .int, fun w' => by rw [valD_leaf h h1 rfl, run_len_string w' T ty _ (isStrT_eq hu)]; rfl⟩
    · cases hv
  · split at hv
    · rename_i l n xs hl
      split at hv
      · rename_i e hu
        cases hv
        refine ⟨_, .int, fun w' => ?_⟩
        rcases listOf_sound h hl with ⟨rfl, a0, cap, e1⟩ | ⟨k, off, cap, c, T0, fz, us, e1, -⟩ <;> rw [e1] <;> simp [Builtin.len_, run_underlying hu, goInt]
      · cases hv
    · cases hv

theorem extractOp_sound (h : Rel st a w g) {x : Operand} {j : Nat} {d : D} (hv : extractOp st x j = some d) : ∃ v, Rd g w v d ∧ ∀ w', (Instr.extract (a.eval x) j).run P w' = .ok v w' := by
  unfold extractOp at hv
  split at hv
  · split at hv
    · rename_i vs hs
      split at hv
      · rename_i d' hd
        cases hv
        obtain ⟨us, e1, e2, e3⟩ := h.rs hs
        obtain ⟨u, f1, f2⟩ := e3 j _ hd
        exact ⟨u, f2, fun w' => by rw [e1]; simp [Instr.extract, f1]⟩
      · cases hv
    · cases hv
  · cases hv

theorem dsOf_sound (h : Rel st a w g) : ∀ {xs : List Operand} {ds : List D}, dsOf st xs = some ds → xs.length = ds.length ∧ ∀ (j : Nat) (y : D), ds[j]? = some y → ∃ o, xs[j]? = some o ∧ Rd g w (a.eval o) y
  | [], ds, hv => by simp [dsOf] at hv; subst hv; simp
  | x :: xs, ds, hv => by
    simp only [dsOf] at hv
    split at hv
    · rename_i d ds' h1 h2
      cases hv
      obtain ⟨hl, hr⟩ := dsOf_sound h h2
      refine ⟨by simp [hl], fun j y hj => ?_⟩
      cases j with
      | zero => simp at hj; subst hj; exact ⟨x, by simp, valD_d h h1⟩
      | succ j => simpa using hr j y (by simpa using hj)
    · cases hv

theorem makeFunc_sound (h : Rel st a w g) {fn : Fn} {first caps : Array Operand} {fs cs : List D} (h1 : dsOf st first.toList = some fs) (h2 : dsOf st caps.toList = some cs) :
    Rd g w (.func fn (first.map a.eval) (caps.map a.eval)) (.fn fn fs cs) := by
  obtain ⟨l1, r1⟩ := dsOf_sound h h1
  obtain ⟨l2, r2⟩ := dsOf_sound h h2
  refine .fn (by simpa using l1) (by simpa using l2) (fun j => ((first[j]?).map a.eval).getD undef) (fun j => ((caps[j]?).map a.eval).getD undef) (fun j y hj => ?_) (fun j y hj => ?_) (fun j y hj => ?_) (fun j y hj => ?_)
  · obtain ⟨o, e1, e2⟩ := r1 j y hj
    have : first[j]? = some o := by simpa using e1
    simp [this]
  · obtain ⟨o, e1, e2⟩ := r1 j y hj
    have : first[j]? = some o := by simpa using e1
    simpa [this] using e2
  · obtain ⟨o, e1, e2⟩ := r2 j y hj
    have : caps[j]? = some o := by simpa using e1
    simp [this]
  · obtain ⟨o, e1, e2⟩ := r2 j y hj
    have : caps[j]? = some o := by simpa using e1
    simpa [this] using e2

end
end Go.Sh
