/- Contracts of functions over plain data. -/
import Derived.Test.YtmhiemakdfkmeaaS2
import Derived.RangeFuncNested
import Derived.TacticsIn
import Derived.Lib.FrozenHead
import Derived.KernelRfl
import Derived.OrdersIn
set_option linter.all false
set_option autoImplicit true
set_option relaxedAutoImplicit true
namespace Go.Sh
section
variable {P : Program} {st : St}
def g9 (i off d : Nat) : Own → Own := fun o => if o = .lst (.ai i off) then .lst (.slot d) else o
theorem kM {i off d : Nat} {o : Own} (h : o ≠ .lst (.ai i off)) : g9 i off d o = o := by simp [g9, h]
theorem lp {t i j : Nat} {s : SV} (hn : eh s = true) : ¬ eS t s (.lst (.ai i j)) := by
 intro h
 cases s <;> simp [eS] at h
 ·subst h; simp [eh] at hn
 ·subst h; simp [eh] at hn
theorem oT {o : Oper} {T : TypeId} {x : Operand} {i off d n : Nat} {xs : List D} {cs : List SV} (hop : o.op = .load T x) (hd : o.dst = some d) (hx : kZ st x = some (i, off)) (hu : (P.underlying T).isNone = false) (ha : cy P T = false)
  (hi : st.H[i]? = some (.cells cs)) (hc : cs[off]? = some (.own n xs)) (hn : st.tmps.all eh = true) {a : Act} {w : World} {g : Gh} (hr : Rel st a w g) :
  ∃ u g', (execOp a.eval o).run P w = .ok (.value u) w ∧ Rel ⟨(st.put (some d) (.own n xs)).tmps, st.H.set i (.cells (cs.set off .undef))⟩ (a.put o.dst u) w g' ∧ (∀ o', o' ≠ .lst (.ai i off) → az o' g w g' w) ∧ g'.ρ = g.ρ := by
 obtain ⟨k, e1, e3⟩ := fZ hr hx
 obtain ⟨k', c, T0, f1, f2, f3, f4, f5⟩ := hr.hp.2 i _ hi
 rw [e1] at f1
 cases f1
 obtain ⟨u, u1, u2, u3⟩ := f5 off _ hc
 have hk : ∀ o', o' ≠ .lst (.ai i off) → az o' g w (g.ren (g9 i off d)) w := fun o' h => az.ren (kM h)
 refine ⟨u, g.ren (g9 i off d), ?_, ?_, hk, rfl⟩
 ·unfold execOp
  rw [hop]
  simp only [Instr.loadAt, e3, Instr.sureAddr, Sem.run_bind, Sem.run_pure, Result.andThen_ok, cd hu ha f3 u1]
 ·rw [hd]
  refine Rel.step hr (by rw [cm]; simp only [St.eg]; exact hr.len) (by rw [put_defers]; exact hr.cH) (fun _ _ h => h) (fun t s hs => ?_) ⟨by simp [Gh.ren, hr.hp.1], fun i' o' hi' => ?_⟩
  ·by_cases e : d = t
   ·subst e
    obtain ⟨rfl, hlt⟩ := St.bU hs
    refine .inr (.inl ?_)
    rw [bb (by rw [hr.len]; exact hlt)]
    exact bA.ren (kM (by simp)) (by simp [g9]) u2
   ·rcases St.gU (fun h => e h.symm) hs with h | ⟨h1, h2⟩
    ·exact .inl h
    ·have hnh : eh s = true := List.all_eq_true.1 hn s (List.mem_iff_getElem?.2 ⟨t, h1⟩)
     refine .inr (.inr ⟨h1, bj (by simpa using e), fun o' ho' => hk o' (fun e2 => ?_), fun s0 e0 => ?_⟩)
     ·subst e2; exact lp hnh ho'
     ·obtain ⟨x0, hx0, hb0⟩ := gr (hr.tmp t _ h1) e0
      have hd0 : (some d : Option Nat) ≠ some s0 := fun e2 => by
       cases e2
       have := h2 _ hx0 (dV hb0)
       rw [bJ e0] at this
       cases this
      exact ⟨bj hd0, fun y hy hb => ⟨y, St.gj hy hb hd0, rfl⟩⟩
  ·simp only at hi'
   by_cases e : i = i'
   ·subst e
    rw [List.getElem?_set_self (aD hi)] at hi'
    cases hi'
    refine ⟨k, c, T0, e1, by simp [Gh.ren, f2, g9], f3, by simp [f4], fun j s hj => ?_⟩
    by_cases ej : off = j
    ·subst ej
     rw [List.getElem?_set_self (aD hc)] at hj
     cases hj
     exact ⟨u, u1, trivial, u3⟩
    ·rw [List.getElem?_set_ne ej] at hj
     obtain ⟨v, v1, v2, v3⟩ := f5 j s hj
     exact ⟨v, v1, v2.aG (hk _ (by simp)) (hk _ (by simp; omega)) (fun _ _ h => h), v3⟩
   ·rw [List.getElem?_set_ne e] at hi'
    exact (hr.hp.2 i' o' hi').jD (hk _ (by simp)) (hk _ (by simp)) (fun j => hk _ (by simp; omega)) (fun _ _ h => h)
theorem OpS.Bj {o : Oper} {T : TypeId} {x : Operand} {i off d n : Nat} {xs : List D} {cs : List SV} (hop : o.op = .load T x) (hd : o.dst = some d) (hx : kZ st x = some (i, off)) (hu : (P.underlying T).isNone = false) (ha : cy P T = false)
  (hi : st.H[i]? = some (.cells cs)) (hc : cs[off]? = some (.own n xs)) (hn : st.tmps.all eh = true) : OpS P false st o ⟨(st.put (some d) (.own n xs)).tmps, st.H.set i (.cells (cs.set off .undef))⟩ :=
 OpS.value fun a w g hr => let ⟨u, g', h1, h2, h3, h4⟩ := oT hop hd hx hu ha hi hc hn hr
  ⟨u, w, g', h1, h2, Nat.le_refl _, h3 _ (by simp), h3 _ (by simp), fun i k h => by rw [h4]; exact h, nofun, nofun, nofun, ⟨rfl, rfl⟩⟩
def eV (i off s : Nat) : Own → Own := fun o => if o = .lst (.slot s) then .lst (.ai i off) else o
theorem kX {i off s : Nat} {o : Own} (h : o ≠ .lst (.slot s)) : eV i off s o = o := by simp [eV, h]
theorem bA.slice {g : Gh} {w : World} {l : Loc} {v : Value} {n : Nat} {xs : List D} (h : bA g w l v n xs) : ∃ a len cap, v = .slice a len cap := by
 rcases h with ⟨_, a, e⟩ | ⟨k, off, cap, c, T, us, hv, _⟩
 ·exact ⟨a, 0, 0, e⟩
 ·exact ⟨_, _, _, hv⟩
theorem pN {o : Oper} {T : TypeId} {x : Operand} {i off s n : Nat} {xs : List D} {cs : List SV} (hop : o.op = .store T x (.tmp s)) (hd : o.dst = none) (hx : kZ st x = some (i, off)) (hs : st.tmps[s]? = some (.own n xs)) (hu : (P.underlying T).isNone = false) (hsz : P.cellsOf T = 1)
  (hi : st.H[i]? = some (.cells cs)) (hlt : off < cs.length) (hn : st.tmps.all eh = true) {a : Act} {w : World} {g : Gh} (hr : Rel st a w g) :
  ∃ w' g', (execOp a.eval o).run P w = .ok .skip w' ∧ Rel ⟨(st.take s).tmps, st.H.set i (.cells (cs.set off (.own n xs)))⟩ (a.put o.dst undef) w' g' ∧ (∀ o', o' ≠ .lst (.slot s) → o' ≠ .obj i → az o' g w g' w') ∧ g'.ρ = g.ρ ∧ w'.heap.size = w.heap.size ∧ cq w w' ∧
   ∃ k c T fz, g'.ρ[i]? = some k ∧ g'.ow k = .obj i ∧ w'.heap[k]? = some (.cells c T fz) ∧ c[off]? = some (valOf a s) := by
 obtain ⟨k, e1, e3⟩ := fZ hr hx
 obtain ⟨k', c, T0, f1, f2, f3, f4, f5⟩ := hr.hp.2 i _ hi
 rw [e1] at f1
 cases f1
 have ho : bA g w (.slot s) (valOf a s) n xs := hr.tmp s _ hs
 obtain ⟨sa, sl, sc, hv⟩ := ho.slice
 have hev : a.eval (.tmp s) = .slice sa sl sc := hv
 obtain ⟨w', r1, r2, r3, c', r4, r5, r6⟩ := bx (P := P) k off T0 [.slice sa sl sc] 0 c w f3 (by simp; omega) (by simp [Value.oneCell'])
 have hos := bT (P := P) k off T0 [.slice sa sl sc] 0 c w w' f3 (by simp; omega) (by simp [Value.oneCell']) r1
 have hk : ∀ o', o' ≠ .lst (.slot s) → o' ≠ .obj i → az o' g w (g.ren (eV i off s)) w' := fun o' h1 h2 => (az.block f2 h2 r3).trans (az.ren (kX h1))
 refine ⟨w', g.ren (eV i off s), ?_, ?_, hk, rfl, r2, hos, k, c', T0, (0, 0), e1, by simp [Gh.ren, f2, eV], r4, by rw [r6, if_pos (by simp), hv]; simp⟩
 ·unfold execOp; rw [hop]
  simp only [Instr.storeAt, Sem.run_bind, e3, Instr.sureAddr, Sem.run_pure, Result.andThen_ok, storeVar, dP hu]
  rw [hev]
  simp only [Value.cells]
  simp [hsz, r1]
 ·rw [hd]
  refine Rel.step hr (by simp only [Act.put, St.iU]; exact hr.len) hr.cH (fun _ _ h => h) (fun t sv hts => ?_) ⟨by simp [Gh.ren, hr.hp.1], fun i' o' hi' => ?_⟩
  ·rcases St.dL hts with h | ⟨h1, h2, h3⟩
   ·exact .inl h
   ·have hnh : eh sv = true := List.all_eq_true.1 hn sv (List.mem_iff_getElem?.2 ⟨t, h1⟩)
    refine .inr (.inr ⟨h1, rfl, fun o' ho' => hk o' (fun e2 => ?_) (fun e2 => ?_), fun s0 e0 => ⟨rfl, fun y hy hb => ⟨y, ?_, rfl⟩⟩⟩)
    ·subst e2
     rcases kL ho' with h | h
     ·exact h2 h.symm
     ·rw [h3] at h; cases h
    ·subst e2; exact iT ho'
    ·have hne : s0 ≠ s := fun e2 => by rw [e2] at e0; rw [bJ e0] at h3; cases h3
     show ((st.kill s).set s .undef).tmps[s0]? = some y
     simp only [St.set, List.getElem?_set_ne (Ne.symm hne)]
     simp [St.kill, hy, cF hb]
  ·simp only at hi'
   by_cases e : i = i'
   ·subst e
    rw [List.getElem?_set_self (aD hi)] at hi'
    cases hi'
    refine ⟨k, c', T0, e1, by simp [Gh.ren, f2, eV], r4, by simp [r5, f4], fun j s' hj => ?_⟩
    by_cases ej : off = j
    ·subst ej
     rw [List.getElem?_set_self hlt] at hj
     cases hj
     refine ⟨.slice sa sl sc, by rw [r6, if_pos (by simp)]; simp, ?_, rfl⟩
     rw [← hv]
     have h1 : bA (g.ren (eV i off s)) w (.ai i off) (valOf a s) n xs := bA.ren (kX (by simp)) (by simp [eV]) ho
     refine bA.aG (fun k0 b hk0 hb0 => ⟨hk0, ?_⟩) (fun k0 b hk0 hb0 => ⟨hk0, ?_⟩) (fun _ _ h => h) h1
     ·rw [r3 k0 (fun e => ?_)]; · exact hb0
      subst e; simp [Gh.ren, f2, eV] at hk0
     ·rw [r3 k0 (fun e => ?_)]; · exact hb0
      subst e; simp [Gh.ren, f2, eV] at hk0
    ·rw [List.getElem?_set_ne ej] at hj
     obtain ⟨v, v1, v2, v3⟩ := f5 j s' hj
     exact ⟨v, by rw [r6, if_neg (by simp; omega)]; exact v1, v2.aG (hk _ (by simp) (by simp)) (hk _ (by simp) (by simp)) (fun _ _ h => h), v3⟩
   ·rw [List.getElem?_set_ne e] at hi'
    exact (hr.hp.2 i' o' hi').jD (hk _ (by simp) (by simp)) (hk _ (by simp) (by simp; omega)) (fun j => hk _ (by simp) (by simp)) (fun _ _ h => h)
theorem OpS.BI {o : Oper} {T : TypeId} {x : Operand} {i off s n : Nat} {xs : List D} {cs : List SV} (hop : o.op = .store T x (.tmp s)) (hd : o.dst = none) (hx : kZ st x = some (i, off)) (hs : st.tmps[s]? = some (.own n xs)) (hu : (P.underlying T).isNone = false) (hsz : P.cellsOf T = 1)
  (hi : st.H[i]? = some (.cells cs)) (hlt : off < cs.length) (hn : st.tmps.all eh = true) : OpS P false st o ⟨(st.take s).tmps, st.H.set i (.cells (cs.set off (.own n xs)))⟩ :=
 OpS.skip fun a w g hr => let ⟨w', g', h1, h2, h3, h4, h5, h6, _⟩ := pN hop hd hx hs hu hsz hi hlt hn hr
  ⟨w', g', h1, h2, by rw [h5]; exact Nat.le_refl _, h3 _ (by simp) (by simp), h3 _ (by simp) (by simp), fun i k h => by rw [h4]; exact h, nofun, nofun, nofun, h6⟩
end
end Go.Sh
namespace Go.Sh
def eF {α : Type} (n : Nat) (c : Cd α) (H : Hp) (i off : Nat) : Option (List α × Hp) :=
 (fL H i).bind fun cs => match cs[off]? with
  | some (.own n' ds) => if n' = n then (ds.mapM c.dec).map fun xs => (xs, H.set i (.cells (cs.set off .undef))) else none
  | _ => none
def dB {α : Type} (n : Nat) (c : Cd α) (H : Hp) (i off : Nat) (xs : List α) : Option Hp :=
 (fL H i).bind fun cs => if off < cs.length then some (H.set i (.cells (cs.set off (.own n (xs.map c.enc))))) else none
theorem xO {α : Type} {n : Nat} {c : Cd α} {H H' : Hp} {i off : Nat} {xs : List α} (h : eF n c H i off = some (xs, H')) :
  ∃ cs, H[i]? = some (.cells cs) ∧ cs[off]? = some (.own n (xs.map c.enc)) ∧ H' = H.set i (.cells (cs.set off .undef)) := by
 unfold eF at h
 simp only [Option.bind_eq_some_iff] at h
 obtain ⟨cs, h1, h2⟩ := h
 split at h2
 ·rename_i n' ds hc
  split at h2
  ·rename_i e
   subst e
   simp only [Option.map_eq_some_iff, Prod.mk.injEq] at h2
   obtain ⟨ys, h3, rfl, rfl⟩ := h2
   have := jw c _ _ h3
   exact ⟨cs, ff h1, by rw [hc, this], rfl⟩
  ·cases h2
 ·cases h2
theorem xQ {α : Type} {n : Nat} {c : Cd α} {H H' : Hp} {i off : Nat} {xs : List α} (h : dB n c H i off xs = some H') :
  ∃ cs, H[i]? = some (.cells cs) ∧ off < cs.length ∧ H' = H.set i (.cells (cs.set off (.own n (xs.map c.enc)))) := by
 unfold dB at h
 simp only [Option.bind_eq_some_iff] at h
 obtain ⟨cs, h1, h2⟩ := h
 split at h2
 ·cases h2; exact ⟨cs, ff h1, by assumption, rfl⟩
 ·cases h2
section
variable {P : Program} {ops : Array Oper} {k : Nat} {st : St} {Q : St → Prop}
def yO (P : Program) (ops : Array Oper) (k : Nat) (st : St) : Option (Nat × Nat × Nat × Hp) :=
 match dT ops k st with
 | some o => match o.op with
  | .load T x => if (!(P.underlying T).isNone && !cy P T && st.tmps.all eh) = true then match o.dst, kZ st x with
   | some d, some (i, off) => some (d, i, off, st.H)
   | _, _ => none
   else none
  | _ => none
 | none => none
theorem OWk.tkH {α : Type} {c : Cd α} {n' d i off : Nat} {xs : List α} {H0 H : Hp} (n : Nat) (L : List Nat) (l : List (Nat × SV)) (hx : eF n' c H0 i off = some (xs, H)) (h : yO P ops k st = some (d, i, off, H0))
  (hst : aV n L ⟨(st.put (some d) (.own n' (xs.map c.enc))).tmps, H⟩ = some (l, H)) (hn : OWk P false ops (k + 1) (sp n l H) Q) : OWk P false ops k st Q := by
 unfold yO at h
 split at h
 ·rename_i o ho
  split at h
  ·rename_i T x hop
   split at h
   ·rename_i hc
    simp only [Bool.and_eq_true, Bool.not_eq_true'] at hc
    split at h
    ·rename_i d' i' off' hd hp
     simp only [Option.some.injEq, Prod.mk.injEq] at h
     obtain ⟨rfl, rfl, rfl, rfl⟩ := h
     obtain ⟨g1, g2⟩ := aW ho
     obtain ⟨cs, e1, e2, rfl⟩ := xO hx
     exact OWk.heap n _ L l g1 g2 (OpS.Bj hop hd hp hc.1.1 hc.1.2 e1 e2 hc.2) hst hn
    ·cases h
   ·cases h
  ·cases h
 ·cases h
def zu (P : Program) (ops : Array Oper) (k : Nat) (st : St) : Option (Nat × Nat × Nat × Nat × List D × Hp) :=
 match dT ops k st with
 | some o => match o.op with
  | .store T x (.tmp s) => if (!(P.underlying T).isNone && P.cellsOf T == 1 && st.tmps.all eh && o.dst.isNone) = true then match kZ st x, st.tmps[s]? with
   | some (i, off), some (.own n xs) => some (s, i, off, n, xs, st.H)
   | _, _ => none
   else none
  | _ => none
 | none => none
theorem OWk.gvH {α : Type} {c : Cd α} {n' s i off : Nat} {xs : List α} {H0 H : Hp} (n : Nat) (L : List Nat) (l : List (Nat × SV)) (hx : dB n' c H0 i off xs = some H) (h : zu P ops k st = some (s, i, off, n', xs.map c.enc, H0))
  (hst : aV n L ⟨(st.take s).tmps, H⟩ = some (l, H)) (hn : OWk P false ops (k + 1) (sp n l H) Q) : OWk P false ops k st Q := by
 unfold zu at h
 split at h
 ·rename_i o ho
  split at h
  ·rename_i T x s' hop
   split at h
   ·rename_i hc
    simp only [Bool.and_eq_true, Bool.not_eq_true', beq_iff_eq, Option.isNone_iff_eq_none] at hc
    split at h
    ·rename_i i' off' n1 ys hp hs
     simp only [Option.some.injEq, Prod.mk.injEq] at h
     obtain ⟨rfl, rfl, rfl, rfl, rfl, rfl⟩ := h
     obtain ⟨g1, g2⟩ := aW ho
     obtain ⟨cs, e1, e2, rfl⟩ := xQ hx
     exact OWk.heap n _ L l g1 g2 (OpS.BI hop hc.2 hp hs hc.1.1.1 hc.1.1.2 e1 e2 hc.1.2) hst hn
    ·cases h
   ·cases h
  ·cases h
 ·cases h
end
end Go.Sh
namespace Go.Sh
def Fw : Option Nat → Fence
 | none => Fence.wide
 | some l => Fence.wide.inRound l
theorem vZ {r : Option Nat} (f : FuncId) : (Fw r).fn f := by cases r <;> trivial
theorem yH {r : Option Nat} : (Fw r).depth = none := by cases r <;> rfl
theorem tT {r : Option Nat} : (Fw r).round = r := by cases r <;> rfl
section
variable {P : Program} {ops : Array Oper} {st : St}
theorem uV {r : Option Nat} {n : Nat} {f : FuncId} {args : Array Value} {w : World} {R : Ending → World → Prop} (h : Calls P f args w R) : CallsIn (Fw r) n P f args w R := by
 cases r with
 | none => exact callsIn_wide.2 h
 | some l => exact (callsIn_wide.2 h).inRound l
theorem wo {r : Option Nat} {n : Nat} {row : String} {args : Array Value} {w : World} {R : Value → World → Prop} (h : Rows P row args w R) : RowsIn (Fw r) n P row args w R := by
 intro c cs _
 obtain ⟨v, w', hR, hs⟩ := h c cs
 refine ⟨v, w', hR, ?_⟩
 cases r with
 | none => exact stepsIn_wide.2 hs
 | some l => exact stepsIn_wide.2 hs
def NX (X : Act → World → Prop) : Exit → Act → World → Prop := fun e a w => e = .normal ∧ X a w
theorem NX.out {X : Act → World → Prop} : ¬ LetsOut (NX X) := fun ⟨_, _, h, _⟩ => by cases h
theorem qw {r : Option Nat} {n : Nat} {o : Oper} {a : Act} {N : Act → World → Prop} {X : Act → World → Prop} {Q : Exit → Act → World → Prop} {x : Result Next} (h : o.upon P a N (NX X) x) : o.uponIn (Fw r) n P a N Q x := by
 have hdep : (Fw r).depth.isSome = true → 1 ≤ n := fun h => by rw [yH] at h; cases h
 cases x with
 | ok nx w' =>
  cases nx <;> simp only [Oper.upon] at h <;> simp only [Oper.uponIn] <;> first
   | exact h
   | exact h.elim
   | (refine ⟨hdep, uV (h.mono fun e w'' hh => ?_)⟩
      cases e with
     | returned v => exact hh
     | panicked ch => cases hh.1
     | outgrown => exact absurd hh NX.out)
   | exact ⟨hdep, wo h⟩
 | halt hh w' => cases hh <;> simp only [Oper.upon] at h <;> first | exact h.elim | cases h.1
theorem gu {r : Option Nat} {n : Nat} {ops' : Array Oper} {X : Act → World → Prop} {Q : Exit → Act → World → Prop} {rest : List Oper} (hX : ∀ a w, X a w → wpListIn (Fw r) n P ops' Q rest a w) :
  ∀ (l : List Oper) (a : Act) (w : World), (∀ o ∈ l, ∀ c, o.op ≠ .defer c) → (∀ o ∈ l, ∀ j b, o.guard = some (j, b) → ops'[j]? = ops[j]?) → wpList P ops (NX X) l a w → wpListIn (Fw r) n P ops' Q (l ++ rest) a w
 | [], a, w, _, _, h => hX a w h.2
 | o :: l, a, w, hd, hg, h => by
  have e : Region.wanted o (yielded ops' a.tmps) = Region.wanted o (yielded ops a.tmps) := by
   unfold Region.wanted
   cases ho : o.guard with
   | none => rfl
   | some p =>
    obtain ⟨j, b⟩ := p
    simp only [yielded, hg o List.mem_cons_self j b ho]
  rw [List.cons_append]
  unfold wpList at h
  unfold wpListIn
  rw [e]
  split
  ·rename_i hw
   rw [if_pos hw] at h
   rcases h with h | h
   ·refine ⟨fun f _ => vZ f, ?_⟩
    rw [tT, Oper.semAt_eq r a.eval o (hd o List.mem_cons_self)]
    exact qw (Oper.wp_mono (K' := wpListIn (Fw r) n P ops' Q (l ++ rest)) (fun a' w' hh => gu hX l a' w' (fun o ho => hd o (List.mem_cons_of_mem _ ho)) (fun o ho => hg o (List.mem_cons_of_mem _ ho)) hh) h)
   ·exact absurd h.2 NX.out
  ·rename_i hw
   rw [if_neg hw] at h
   exact ⟨fun f _ => vZ f, gu hX l _ w (fun o ho => hd o (List.mem_cons_of_mem _ ho)) (fun o ho => hg o (List.mem_cons_of_mem _ ho)) h⟩
def dG (l : List Oper) : Bool := l.all fun o => match o.op with | .defer _ => false | _ => true
theorem gV {l : List Oper} (h : dG l = true) : ∀ o ∈ l, ∀ c, o.op ≠ .defer c := fun o ho c e => by
 have := List.all_eq_true.1 h o ho
 rw [e] at this
 cases this
theorem tX {r : Option Nat} {n id : Nat} {K : St → Prop} {Q : Exit → Act → World → Prop} {a : Act} {w : World} {g : Gh} (hd : dG ops.toList = true) (h : OWk P false ops 0 st K) (hr : Rel st a w g)
  (hq : ∀ st' a' w' g', K st' → Rel st' a' w' g' → Fr false g w g' w' → Q .normal a' w') : (Code.region id ops false).wpIn (Fw r) n P Q a w := by
 refine wpIn_region_list ?_
 unfold OWk at h
 rw [List.drop_zero] at h
 have h1 := h a w g hr (NX (Q .normal)) (fun st' a' w' g' q r f => ⟨rfl, hq st' a' w' g' q r f⟩)
 have := gu (r := r) (n := n) (ops' := ops) (Q := Q) (rest := []) (fun a w h => wpListIn_nil h) ops.toList a w (gV hd) (fun _ _ _ _ _ => rfl) h1
 rwa [List.append_nil] at this
def CFr (C : Gh → World → Prop) : Prop := ∀ g w g' w', C g w → Fr false g w g' w' → C g' w'
def YB (P : Program) (C : Gh → World → Prop) (l : Nat) (args : List SV) (H H' : List ar) : Prop :=
 ∀ (w : World) (g : Gh) (vs : Array Value), C g w → fj g w vs args → RH g w H → ∃ fn tmps assign body, (Instr.yield l vs).run P w = .ok (.round l fn tmps assign body) w ∧
  ∀ n, RoundIn Fence.wide n P l fn tmps assign body w fun e w' => e = .returned (.bool true) ∧ ∃ g', RH g' w' H' ∧ Fr false g w g' w' ∧ ∀ o, fA o = false → az o g w g' w'
variable {C : Gh → World → Prop} {Q : Exit → St → Prop}
end
end Go.Sh
namespace Go.Sh
section
variable {P : Program} {st : St}
theorem sr {t : Nat} {s : SV} : ¬ eS t s .out := by
 intro h
 cases s <;> simp [eS] at h
theorem Rel.outside {a : Act} {w w' : World} {g : Gh} {l : Nat} (h : Rel st a w g) (hl : g.ow l = .out) (hw : ∀ k, k ≠ l → w'.heap[k]? = w.heap[k]?) : Rel st a w' g := by
 have hk : ∀ o, o ≠ .out → az o g w g w' := fun o ho k b h1 h2 => ⟨h1, by rw [hw k (fun e => ho (by rw [← h1, e]; exact hl.symm ▸ rfl))]; exact h2⟩
 refine Rel.step h h.len h.cH (fun _ _ h => h) (fun t s hs => .inr (.inr ⟨hs, rfl, fun o' ho' => hk o' (fun e => by subst e; exact sr ho'), fun s0 e => ⟨rfl, fun x hx hb => ⟨x, hx, rfl⟩⟩⟩)) ?_
 exact h.hp.aG (fun o ho => hk o (fun e => by subst e; exact ho)) (fun _ _ h => h) rfl
theorem bL {w : World} {l k : Nat} {o : Obj} (h : k ≠ l) : (w.putObj l o).heap[k]? = w.heap[k]? := World.putObj_heap_other h
def SWR (P : Program) (r : Option Nat) (c : Code) (st : St) (K : St → Prop) : Prop :=
 ∀ n a w g, Rel st a w g → c.wpIn (Fw r) n P (fun e a' w' => e = .normal ∧ ∃ st' g', K st' ∧ Rel st' a' w' g' ∧ Fr false g w g' w') a w
variable {r : Option Nat} {K : St → Prop}
theorem SWR.region {ops : Array Oper} {id : Nat} (hd : dG ops.toList = true) (h : OWk P false ops 0 st K) : SWR P r (.region id ops false) st K :=
 fun n a w g hr => tX hd h hr fun st' a' w' g' q r f => ⟨rfl, st', g', q, r, f⟩
theorem SWR.block {id : Nat} {c : Code} (h : SWR P r c st K) : SWR P r (.block id c) st K := fun n a w g hr =>
 wpIn_block (Code.wpIn_mono (fun e a' w' hh => by obtain ⟨rfl, hh⟩ := hh; exact ⟨rfl, hh⟩) (h n a w g hr))
def kJ (l : Nat) (R : Loop) (ds : List (Nat × D)) (g : Gh) (w : World) : Prop :=
 w.heap[l]? = some (.loop R) ∧ g.ow l = .out ∧ ∀ t d, (t, d) ∈ ds → Rd g w (R.tmps.getD t undef) d
theorem kJ.fr {l : Nat} {R : Loop} {ds : List (Nat × D)} : CFr (kJ l R ds) := fun g w g' w' h f =>
 ⟨(f.out l _ h.2.1 h.1).2, (f.out l _ h.2.1 h.1).1, fun t d hd => (h.2.2 t d hd).aG f.free f.rho⟩
theorem YB.xz {l tp : Nat} {R : Loop} {ds : List (Nat × D)} {y : D} {H H' : List ar} {s0 : St} (hst : R.state = .ready) (hpe : R.pending = none) (hps : R.params = #[tp]) (hH : s0.H = H) (hlen : s0.tmps.length = R.tmps.size)
  (hs0 : ∀ t s, s0.tmps[t]? = some s → s = .undef ∨ ∃ d, s = .d d ∧ ((t = tp ∧ d = y) ∨ (t ≠ tp ∧ (t, d) ∈ ds)))
  (h : SWR P (some l) R.assign s0 (fun s1 => SWR P (some l) R.body s1 (fun s2 => s2.H = H'))) : YB P (kJ l R ds) l [.d y] H H' := by
 intro w g vs hC hRA hRH
 obtain ⟨hl1, hl2, hl3⟩ := hC
 obtain ⟨hv1, hv2⟩ := hRA
 obtain ⟨v, hv3, hv4⟩ := hv2 0 (.d y) rfl
 have hvs : vs = #[v] := by
  apply Array.ext_getElem?
  intro j
  cases j with
  | zero => simpa using hv3
  | succ j => rw [Array.getElem?_eq_none (by simp at hv1; omega)]; simp
 subst hvs
 have hv4 : Rd g w v y := hv4
 refine ⟨R.fn, R.tmps.setIfInBounds tp v, R.assign, R.body, ?_, fun n => ?_⟩
 ·rw [run_yield hl1 (by rw [hps]; rfl), hps]
  simp
 ·have hrel : Rel s0 { tmps := R.tmps.setIfInBounds tp v, defers := [] } w (g.ren (ak [] [])) := by
   refine ⟨by simp [hlen], rfl, fun t s hs => ?_, ?_⟩
   ·rcases hs0 t s hs with rfl | ⟨d, rfl, h | ⟨h1, h2⟩⟩
    ·trivial
    ·obtain ⟨rfl, rfl⟩ := h
     have hlt : t < R.tmps.size := by rw [← hlen]; exact aD hs
     have : valOf { tmps := R.tmps.setIfInBounds t v, defers := [] } t = v := by
      simp [valOf, Array.getD_eq_getD_getElem?, hlt]
     rw [this]
     exact hv4.aG (az.ren rfl) (fun _ _ h => h)
    ·have : valOf { tmps := R.tmps.setIfInBounds tp v, defers := [] } t = R.tmps.getD t undef := by
      simp [valOf, Array.getD_eq_getD_getElem?, Array.getElem?_setIfInBounds, Ne.symm h1]
     rw [this]
     exact (hl3 t d h2).aG (az.ren rfl) (fun _ _ h => h)
   ·rw [hH]
    exact hRH.aG (fun o' ho' => az.ren (by
     cases o' <;> simp only [gv] at ho' <;> try rfl
     rename_i l
     cases l <;> simp only [gv] at ho'
     rfl)) (fun _ _ h => h) rfl
  have hgl : (g.ren (ak [] [])).ow l = .out := by simp [Gh.ren, hl2, ak]
  refine roundIn_of_wpIn (F := Fence.wide) trivial (Code.wpIn_mono (fun e a1 w1 hh => ?_) (h n _ w _ hrel))
  obtain ⟨rfl, st1, g1, q1, r1, f1⟩ := hh
  obtain ⟨k1, k2⟩ := f1.out l _ hgl hl1
  refine ⟨_, run_beginRound k2 hst, ?_⟩
  have r2 := r1.outside (w' := w1.putObj l (.loop { R with state := .busy })) k1 (fun k hk => bL hk)
  refine Code.wpIn_mono (fun e a3 w3 hh => ?_) (q1 n a1 _ g1 r2)
  obtain ⟨rfl, st3, g3, q3, r3, f3⟩ := hh
  have hbusy : (w1.putObj l (.loop { R with state := .busy })).heap[l]? = some (.loop { R with state := .busy }) := World.putObj_heap_same (Array.getElem?_eq_some_iff.1 k2).1
  obtain ⟨m1, m2⟩ := f3.out l _ k1 hbusy
  refine ⟨_, _, run_endRound none m2, rfl, ?_⟩
  have hR : ({ { R with state := .busy } with state := if (none : Option Code).isNone then .ready else .done, pending := none } : Loop) = R := by
   simp [← hst, ← hpe]
  rw [hR]
  have r4 := r3.outside (w' := w3.putObj l (.loop R)) m1 (fun k hk => bL hk)
  have hl4 : (w3.putObj l (.loop R)).heap[l]? = some (.loop R) := World.putObj_heap_same (Array.getElem?_eq_some_iff.1 m2).1
  have hback : ∀ {o : Own}, az o (g.ren (ak [] [])) w g1 w1 → az o g1 (w1.putObj l (.loop { R with state := .busy })) g3 w3 → az o (g.ren (ak [] [])) w g3 (w3.putObj l (.loop R)) := fun {o} ha hb k b e1 e2 => by
   obtain ⟨x1, x2⟩ := ha k b e1 e2
   by_cases hk : k = l
   ·subst hk
    rw [hl1] at e2
    cases e2
    rw [e1] at hgl
    subst hgl
    exact ⟨m1, hl4⟩
   ·obtain ⟨y1, y2⟩ := hb k b x1 (by rw [bL hk]; exact x2)
    exact ⟨y1, by rw [bL hk]; exact y2⟩
  have hfr : Fr false (g.ren (ak [] [])) w g3 (w3.putObj l (.loop R)) := by
   refine ⟨?_, hback f1.free f3.free, hback f1.out f3.out, fun i k h => f3.rho i k (f1.rho i k h), nofun, nofun, nofun, ?_⟩
   ·have h1 := f1.size
    have h2 := f3.size
    simp only [World.putObj, Array.size_setIfInBounds] at h2 ⊢
    omega
   ·exact f1.os.trans f3.os
  have hRH3 : RH g3 (w3.putObj l (.loop R)) H' := by rw [← q3]; exact r4.hp
  obtain ⟨p1, p2⟩ := iu 0 hfr hRH3
  exact ⟨_, p2, p1, fun o ho => qW (t := 0) hfr ho⟩
end
end Go.Sh
namespace Go.Sh
section
variable {P : Program} {st : St} {C : Gh → World → Prop} {Q : Exit → St → Prop} {ops : Array Oper} {m : Nat} {K : St → Prop}
theorem ry {n k : Nat} {a : Act} {w : World} {g : Gh} {Qc : Exit → Act → World → Prop} (hd : dG ops.toList = true) (h : OWk P false ops k st K) (hr : Rel st a w g)
  (hq : ∀ st' a' w' g', K st' → Rel st' a' w' g' → Fr false g w g' w' → Qc .normal a' w') : wpListIn Fence.wide n P ops Qc (ops.toList.drop k) a w := by
 have h1 := h a w g hr (NX (Qc .normal)) (fun st' a' w' g' q r f => ⟨rfl, hq st' a' w' g' q r f⟩)
 have := gu (r := none) (n := n) (ops' := ops) (Q := Qc) (rest := []) (fun a w h => wpListIn_nil h) (ops.toList.drop k) a w (fun o ho => gV hd o (List.mem_of_mem_drop ho)) (fun _ _ _ _ _ => rfl) h1
 rwa [List.append_nil] at this
def yAt (P : Program) (ops : Array Oper) (k : Nat) (st : St) : Option (Option Tmp × Nat × D) :=
 match dT ops k st with
 | some o => match o.op with
  | .call c => match c.callee, c.args.toList with
   | .value fo, [x] => match bK st fo, bK st x with
    | some (.fn (.yield l) [] []), some d => some (o.dst, l, d)
    | _, _ => none
   | _, _ => none
  | _ => none
 | none => none
end
end Go.Sh
namespace Go.Sh
def nG (r : Nat) : Deferred := { target := .collected r, args := #[] }
def Mk (n : Nat) (ds : List Deferred) (g : Gh) (w : World) : Prop := ∃ rs : List Nat, ds = rs.map nG ∧ rs.Nodup ∧ (∀ r ∈ rs, n ≤ r) ∧ ∀ r ∈ rs, w.heap[r]? = some (.deferred (some [])) ∧ g.ow r = .out
theorem Mk.nil {n : Nat} {g : Gh} {w : World} : Mk n [] g w := ⟨[], rfl, List.nodup_nil, (fun _ h => by cases h), fun _ h => by cases h⟩
theorem Mk.le {n n' : Nat} {ds : List Deferred} {g : Gh} {w : World} (h : Mk n' ds g w) (hn : n ≤ n') : Mk n ds g w := let ⟨rs, a, b, c, d⟩ := h; ⟨rs, a, b, fun r hr => Nat.le_trans hn (c r hr), d⟩
theorem Mk.fr {n : Nat} {ds : List Deferred} {g g' : Gh} {w w' : World} (h : Mk n ds g w) (f : Fr false g w g' w') : Mk n ds g' w' := by
 obtain ⟨rs, h1, h2, h0, h3⟩ := h
 exact ⟨rs, h1, h2, h0, fun r hr => ⟨(f.out r _ (h3 r hr).2 (h3 r hr).1).2, (f.out r _ (h3 r hr).2 (h3 r hr).1).1⟩⟩
section
variable {P : Program} {st : St} {Q : Exit → St → Prop}
def dJ (P : Program) (c : Code) (st : St) (Q : Exit → St → Prop) : Prop :=
 ∀ a w g, Rel st a w g → c.wp P (fun e a' w' => ∃ ds a0 st' g', Mk w.heap.size ds g' w' ∧ a' = eB a0 ds ∧ Q e st' ∧ Rel st' a0 w' g' ∧ Fr false g w g' w') a w
theorem wC (a : Act) : eB a [] = a := by simp [eB]
theorem dJ.seq1 {x y : Code} (h : SW P false x st (thenS (fun s => dJ P y s Q) Q)) : dJ P (.seq x y) st Q := by
 intro a w g hr
 refine wp_seq (Code.wp_mono (fun e a' w' hh => ?_) (h a w g hr))
 obtain ⟨st', g', q, r, f⟩ := hh
 cases e with
 | normal =>
  refine Code.wp_mono (fun e2 a2 w2 hh2 => ?_) (q a' w' g' r)
  obtain ⟨ds, a0, st2, g2, m2, e2, q2, r2, f2⟩ := hh2
  exact ⟨ds, a0, st2, g2, m2.le f.size, e2, q2, r2, f.trans f2⟩
 | _ => exact ⟨[], a', st', g', .nil, (wC a').symm, q, r, f⟩
theorem dJ.Cy {x y : Code} (h : dJ P x st (thenS (fun s => ∀ ds, SWd P ds y s Q) Q)) : dJ P (.seq x y) st Q := by
 intro a w g hr
 refine wp_seq (Code.wp_mono (fun e a' w' hh => ?_) (h a w g hr))
 obtain ⟨ds, a0, st', g', m, rfl, q, r, f⟩ := hh
 cases e with
 | normal =>
  refine Code.wp_mono (fun e2 a2 w2 hh2 => ?_) (q ds a0 w' g' r)
  obtain ⟨a1, st2, g2, e2, q2, r2, f2⟩ := hh2
  exact ⟨ds, a1, st2, g2, m.fr f2, e2, q2, r2, f.trans f2⟩
 | _ => exact ⟨ds, a0, st', g', m, rfl, q, r, f⟩
theorem dJ.block {id : Nat} {c : Code} (h : dJ P c st (kC id Q)) : dJ P (.block id c) st Q := by
 intro a w g hr
 refine wp_block (Code.wp_mono (fun e a' w' hh => ?_) (h a w g hr))
 obtain ⟨ds, a0, st', g', m, e0, q, r, f⟩ := hh
 cases e with
 | exit id' =>
  simp only [kC] at q
  simp only [Exit.inBlock]
  split at q
  ·rename_i hi; rw [if_pos hi]; exact ⟨ds, a0, st', g', m, e0, q, r, f⟩
  ·rename_i hi; rw [if_neg hi]; exact ⟨ds, a0, st', g', m, e0, q, r, f⟩
 | _ => exact ⟨ds, a0, st', g', m, e0, q, r, f⟩
theorem dJ.kp {c : Code} (n : Nat) (H : List ar) (L : List Nat) (l : List (Nat × SV)) (hst : aV n L st = some (l, H)) (h : dJ P c (sp n l H) Q) : dJ P c st Q :=
 fun a w g hr => h a w g (hr.bk (ay hst))
theorem mO {w : World} {r : Nat} (h : w.heap[r]? = some (.deferred (some []))) : (Instr.takeDeferred r).run P w = .ok [] (w.putObj r (.deferred none)) := run_takeDeferred h
theorem SB.oE {f : FuncId} {fn : Func} {c : Code} {args : List SV} {H H' : List ar} {r : SV} (hf : P.funcs[f]? = some fn) (hb : fn.body = some c)
  (h : dJ P c (fJ fn.ntmps args H) (aA P fn.results.toList H' r)) : SB P f args H (.ok (r, H')) := by
 intro w g vs ha hH
 refine callsIn_wide.1 (callsIn_of_wp_marks (n := 0) hf hb trivial ((wpIn_wide (n := 0)).2 (Code.wp_mono (fun e a' w' hh => ?_) (h _ _ g (Rel.init ha hH fn.ntmps)))))
 obtain ⟨ds, a0, st', g', m, rfl, ⟨he, l, h1, h2⟩, hr, hfr⟩ := hh
 obtain ⟨rs, rfl, hnd, hbase, hrs⟩ := m
 have key : ∀ (rs : List Nat) (w1 : World), rs.Nodup → (∀ r ∈ rs, w.heap.size ≤ r) → (∀ r ∈ rs, w1.heap[r]? = some (.deferred (some [])) ∧ g'.ow r = .out) → Rel (st'.gD l) a0 w1 g' → az .free g w g' w1 → az .out g w g' w1 → w.heap.size ≤ w1.heap.size → cq w w1 →
   LeavesInM Fence.wide 0 P fn a0.tmps (fun e w' => ∃ v g', e = .returned v ∧ nu g' w' v r ∧ RH g' w' H' ∧ Fr false g w g' w') (rs.map nG) .returning w1 := by
  intro rs
  induction rs with
  | nil =>
   intro w1 _ _ _ hr1 k1 k2 k3 k4
   obtain ⟨v, g5, e5, e6, e7, e8⟩ := AD (pu := false) hr1 (mC h1)
   have hH1 : (st'.gD l).H = H' := by rw [St.rM]; exact h2
   rw [hH1] at e7
   have : Fr false g w g' w1 := ⟨k3, k1, k2, hfr.rho, nofun, nofun, nofun, k4⟩
   exact ⟨v, e5, v, g5, rfl, e6, e7, this.trans e8⟩
  | cons r0 rs ih =>
   intro w1 hn hb0 hh hr1 k1 k2 k3 k4
   rw [List.nodup_cons] at hn
   obtain ⟨t1, t2⟩ := hh r0 (by simp)
   have hb1 := hb0 r0 (by simp)
   refine ⟨by simp, .inl ⟨r0, _, rfl, mO t1, ?_⟩⟩
   have hne : ∀ {k : Nat} {b : Obj}, w.heap[k]? = some b → k ≠ r0 := fun hk e => by
    have := zw hk
    omega
   refine ih _ hn.2 (fun r hr => hb0 r (by simp [hr])) (fun r hr => ⟨?_, (hh r (by simp [hr])).2⟩) (hr1.outside t2 (fun k hk => bL hk)) (fun k b x1 x2 => ?_) (fun k b x1 x2 => ?_) ?_ k4
   ·have hne2 : r ≠ r0 := fun e => hn.1 (by rw [← e]; exact hr)
    rw [bL hne2]
    exact (hh r (by simp [hr])).1
   ·obtain ⟨y1, y2⟩ := k1 k b x1 x2
    exact ⟨y1, by rw [bL (hne x2)]; exact y2⟩
   ·obtain ⟨y1, y2⟩ := k2 k b x1 x2
    exact ⟨y1, by rw [bL (hne x2)]; exact y2⟩
   ·simpa [World.putObj] using k3
 have hds : (eB a0 (rs.map nG)).defers = rs.map nG := by simp [eB, hr.cH]
 have fin := key rs w' hnd hbase hrs hr.gD hfr.free hfr.out hfr.size hfr.os
 rcases he with rfl | rfl
 ·show LeavesInM Fence.wide 0 P fn _ _ (eB a0 (rs.map nG)).defers .returning w'
  rw [hds]; exact fin
 ·show LeavesInM Fence.wide 0 P fn _ _ (eB a0 (rs.map nG)).defers .returning w'
  rw [hds]; exact fin
where
 zw {w : World} {k : Nat} {b : Obj} (h : w.heap[k]? = some b) : k < w.heap.size := (Array.getElem?_eq_some_iff.1 h).1
end
end Go.Sh
namespace Go.Sh
def SBC (P : Program) (C : Gh → World → Prop) (f : FuncId) (args : List SV) (H H' : List ar) : Prop :=
 ∀ (w : World) (g : Gh) (vs : Array Value), C g w → fj g w vs args → RH g w H → Calls P f vs w fun e w' => ∃ v g', e = .returned v ∧ RH g' w' H' ∧ Fr false g w g' w'
section
variable {P : Program} {st : St} {Q : Exit → St → Prop}
theorem dJ.An {gop : Operand} {ps : Array Tmp} {assign body : Code} {f : FuncId} {caps : List D} {H' : List ar} {ds : List (Nat × D)} (hg : bK st gop = some (.fn (.func f) [] caps)) (hfn : wH P f = true) (hn : st.tmps.all eh = true)
  (hds : ∀ t d, (t, d) ∈ ds → st.tmps[t]? = some (.d d))
  (hf : ∀ (l : Nat) (R : Loop), R.state = .ready → R.pending = none → R.params = ps → R.assign = assign → R.body = body → R.tmps.size = st.tmps.length → SBC P (kJ l R ds) f (.d (.fn (.yield l) [] []) :: caps.map .d) st.H H')
  (hq : Q .normal ⟨st.tmps, H'⟩) : dJ P (.rangeFunc gop ps assign body) st Q := by
 intro a w g hr
 refine (wpIn_wide (n := 0)).1 (wpIn_rangeFunc fun fn _ => ?_)
 let R : Loop := { state := .ready, pending := none, fn, tmps := a.tmps, params := ps, assign, body, defers := w.heap.size }
 let w0 := w.alloc (.deferred (some []))
 let w1 := w0.alloc (.loop R)
 let g1 := (g.upd w.heap.size .out).upd w0.heap.size .out
 have hs0 : w0.heap.size = w.heap.size + 1 := by simp [w0]
 have hk : ∀ o, az o g w g1 w1 := fun o => (az.alloc (t := .out)).trans (az.alloc (t := .out))
 have hr1 : Rel st a w1 g1 := hr.world hk (fun _ _ h => h) rfl
 have hfr1 : Fr false g w g1 w1 := ⟨by simp [w1, w0]; omega, hk _, hk _, fun _ _ h => h, nofun, nofun, nofun, ⟨rfl, rfl⟩⟩
 have hl1 : w1.heap[w.heap.size + 1]? = some (.loop R) := by rw [← hs0]; exact World.alloc_heap_new w0 _
 have hm1 : w1.heap[w.heap.size]? = some (.deferred (some [])) := (az.alloc (o' := .out) (g := (g.upd w.heap.size .out)) (w := w0) (o := .loop R) (t := .out) _ _ (by simp) (World.alloc_heap_new w _)).2
 have hgl : g1.ow (w.heap.size + 1) = .out := by rw [← hs0]; simp [g1]
 have hgm : g1.ow w.heap.size = .out := by simp [g1, Gh.upd]
 have hrf := bw hr1 hg
 obtain ⟨vc, hev, lc, rc⟩ : ∃ vc : Array Value, a.eval gop = .func (.func f) #[] vc ∧ vc.size = caps.length ∧ (∀ (j : Nat) (y : D), caps[j]? = some y → ∃ u, vc[j]? = some u ∧ Rd g1 w1 u y) := by
  generalize a.eval gop = v at hrf
  cases hrf with
  | fn hl1 hl2 us1 us2 hc1 hr1 hc2 hr2 =>
   rename_i v1 v2
   have e1 : v1 = #[] := Array.eq_empty_of_size_eq_zero (by simpa using hl1)
   exact ⟨_, by rw [e1], hl2, fun j y hj => ⟨us2 j, hc2 j y hj, hr2 j y hj⟩⟩
 let yl : Value := .func (.yield (w.heap.size + 1)) #[] #[]
 refine ⟨w.heap.size + 1, [nG w.heap.size], w1, { target := .fn (.func f) vc, args := #[yl] }, w1, f, #[yl] ++ vc, w1, run_enterLoop_outer _ _ _ _ _, ?_, fun _ _ => trivial, ?_, (fun h => nomatch h), ?_⟩
 ·simp only [resolve, rangeCall, hev, Deferred.ofValue, List.map_toArray, List.map_cons, List.map_nil]
  rfl
 ·unfold wH at hfn
  split at hfn
  ·rename_i fn' hfn'
   simp only [Bool.and_eq_true, bne_iff_ne] at hfn
   obtain ⟨k1, k2⟩ := hfn
   have k2' : fn'.body.isNone = false := by cases hb : fn'.body <;> simp [hb] at k2 ⊢
   simp only [invoke, callFunc, Sem.run_bind, run_program, Result.andThen_ok, hfn']
   rw [if_neg (by simpa using k1), k2']
   rfl
  ·cases hfn
 ·have kp : ∀ {v : Value} {d : D}, Rd g1 w1 v d → Rd (g1.ren (ak [] [])) w1 v d := fun hr => hr.aG (az.ren rfl) (fun _ _ h => h)
  have hC : kJ (w.heap.size + 1) R ds (g1.ren (ak [] [])) w1 := by
   refine ⟨hl1, by simp [Gh.ren, hgl, ak], fun t d hd => kp ?_⟩
   exact hr1.tmp t _ (hds t d hd)
  have hRA : fj (g1.ren (ak [] [])) w1 (#[yl] ++ vc) (.d (.fn (.yield (w.heap.size + 1)) [] []) :: caps.map .d) := by
   refine ⟨by simp [lc]; omega, fun j s hj => ?_⟩
   cases j with
   | zero =>
    simp only [List.getElem?_cons_zero, Option.some.injEq] at hj
    subst hj
    refine ⟨yl, (by rw [Array.getElem?_append_left (by simp)]; rfl), ?_⟩
    exact .fn rfl rfl (fun _ => undef) (fun _ => undef) (fun j y hj => by simp at hj) (fun j y hj => by simp at hj) (fun j y hj => by simp at hj) (fun j y hj => by simp at hj)
   | succ j =>
    simp only [List.getElem?_cons_succ, List.getElem?_map, Option.map_eq_some_iff] at hj
    obtain ⟨d, hd, rfl⟩ := hj
    obtain ⟨u, e1, e2⟩ := rc j d hd
    refine ⟨u, ?_, kp e2⟩
    rw [Array.getElem?_append_right (by simp)]
    simpa using e1
  have hRH : RH (g1.ren (ak [] [])) w1 st.H := hr1.hp.aG (fun o' ho' => az.ren (by
   cases o' <;> simp only [gv] at ho' <;> try rfl
   rename_i l
   cases l <;> simp only [gv] at ho'
   rfl)) (fun _ _ h => h) rfl
  refine callsIn_wide.2 ((hf (w.heap.size + 1) R rfl rfl rfl rfl rfl hr.len w1 _ _ hC hRA hRH).mono fun e w3 hh => ?_)
  obtain ⟨v, g3, rfl, hH3, hf3⟩ := hh
  obtain ⟨p1, p2⟩ := iu 0 hf3 hH3
  have hrel3 := hr1.yg 0 hf3 hH3 hn
  obtain ⟨q1, q2⟩ := p1.out _ _ hgl hl1
  obtain ⟨m1, m2⟩ := p1.out _ _ hgm hm1
  refine ⟨none, _, run_endLoop q2 (by simp [R]), ?_⟩
  have hrel4 := hrel3.outside (w' := w3.putObj (w.heap.size + 1) (.loop { R with state := .exhausted })) q1 (fun k hk => bL hk)
  refine ⟨[nG w.heap.size], a, ⟨st.tmps, H'⟩, _, ⟨[w.heap.size], rfl, by simp, by simp, fun r hr' => ?_⟩, ?_, hq, hrel4, ?_⟩
  ·simp only [List.mem_singleton] at hr'
   subst hr'
   exact ⟨by rw [bL (by omega)]; exact m2, m1⟩
  ·simp [eB, hr.cH]
  ·have hne : ∀ {k : Nat} {b : Obj}, w.heap[k]? = some b → k ≠ w.heap.size + 1 := fun hk e => by
    have := (Array.getElem?_eq_some_iff.1 hk).1
    omega
   have f13 := hfr1.trans p1
   refine ⟨?_, fun k b x1 x2 => ?_, fun k b x1 x2 => ?_, f13.rho, nofun, nofun, nofun, f13.os⟩
   ·have := f13.size
    simpa [World.putObj] using this
   ·obtain ⟨y1, y2⟩ := f13.free k b x1 x2
    exact ⟨y1, by rw [bL (hne x2)]; exact y2⟩
   ·obtain ⟨y1, y2⟩ := f13.out k b x1 x2
    exact ⟨y1, by rw [bL (hne x2)]; exact y2⟩
end
end Go.Sh
namespace Go.Sh
end Go.Sh
namespace Go.Sh
end Go.Sh
namespace Go.Sh
end Go.Sh
namespace Go.Sh
section
variable {P : Program} {st : St} {ds : List Deferred} {Q : Exit → St → Prop}
end
end Go.Sh
namespace Go.Sh
section
variable {P : Program} {st : St} {ds : List Deferred} {Q : Exit → St → Prop}
end
end Go.Sh
namespace Go.Sh
section
variable {P : Program} {st : St} {Q : Exit → St → Prop}
theorem SWR.kp {r : Option Nat} {c : Code} {K : St → Prop} (n : Nat) (H : List ar) (L : List Nat) (l : List (Nat × SV)) (hst : aV n L st = some (l, H)) (h : SWR P r c (sp n l H) K) : SWR P r c st K :=
 fun m a w g hr => h m a w g (hr.bk (ay hst))
end
end Go.Sh
namespace Go.Sh
def reC : List (Nat × Nat) → List SV → Option (List SV)
 | [], cs => some cs
 | (j, n) :: nl, cs => match cs[j]? with
  | some (.d .bW) => reC nl (cs.set j (.own n []))
  | _ => none
theorem sM {g : Gh} {w : World} {i : Nat} {c : Array Value} : ∀ (nl : List (Nat × Nat)) (cs cs' : List SV), reC nl cs = some cs' →
  (∀ (j : Nat) (s : SV), cs[j]? = some s → ∃ u, c[j]? = some u ∧ RC g w (.ai i j) u s ∧ u.oneCell' = true) → cs'.length = cs.length ∧ ∀ (j : Nat) (s : SV), cs'[j]? = some s → ∃ u, c[j]? = some u ∧ RC g w (.ai i j) u s ∧ u.oneCell' = true
 | [], cs, cs', h, hc => by cases h; exact ⟨rfl, hc⟩
 | (j0, n) :: nl, cs, cs', h, hc => by
  unfold reC at h
  split at h
  ·rename_i h0
   obtain ⟨u, u1, u2, u3⟩ := hc j0 _ h0
   obtain ⟨a, rfl⟩ := Rd.gE (show Rd g w u .bW from u2)
   obtain ⟨e1, e2⟩ := sM nl _ cs' h (fun j s hj => by
    by_cases e : j0 = j
    ·subst e
     rw [List.getElem?_set_self (aD h0)] at hj
     cases hj
     exact ⟨_, u1, .inl ⟨rfl, a, rfl⟩, u3⟩
    ·rw [List.getElem?_set_ne e] at hj
     exact hc j s hj)
   exact ⟨by rw [e1]; simp, e2⟩
  ·cases h
theorem ck.push {g : Gh} {ow : Nat → Own} {k : Nat} : ck g ⟨ow, g.ρ ++ [k]⟩ := fun i k' h => by
 show (g.ρ ++ [k])[i]? = some k'
 rw [List.getElem?_append_left (aD h)]
 exact h
section
variable {P : Program} {st : St} {ds : List Deferred} {Q : Exit → St → Prop}
theorem Rel.xl {a : Act} {w : World} {g : Gh} {t : Nat} {cs cs' : List SV} {nl : List (Nat × Nat)} (hr : Rel st a w g) (ht : st.tmps[t]? = some (.box cs)) (hc : reC nl cs = some cs') :
  ∃ g', Rel ⟨((st.kill t).set t (.d (.ptr st.H.length 0))).tmps, st.H ++ [.cells cs']⟩ a w g' ∧ Fr false g w g' w := by
 let i := st.H.length
 let rn : Own → Own := fun o => match o with
  | .box s => if s = t then .obj i else .box s
  | .lst (.cell s c) => if s = t then .lst (.ai i c) else .lst (.cell s c)
  | o => o
 obtain ⟨k, c, T, f1, f2, f3, f4, f5⟩ := (show RS g w st.tmps (valOf a) t (valOf a t) (.box cs) from hr.tmp t _ ht)
 let g' : Gh := ⟨fun b => rn (g.ow b), g.ρ ++ [k]⟩
 have hρ : ck g g' := ck.push
 have hk : ∀ o, rn o = o → az o g w g' w := fun o h b x h1 h2 => ⟨by show rn (g.ow b) = o; rw [h1, h], h2⟩
 have hf : az .free g w g' w := hk _ rfl
 have hlen : g.ρ.length = st.H.length := hr.hp.1
 refine ⟨g', ?_, Nat.le_refl _, hf, hk _ rfl, hρ, nofun, nofun, nofun, ⟨rfl, rfl⟩⟩
 have iQ : g'.ρ[i]? = some k := by
  show (g.ρ ++ [k])[i]? = some k
  rw [List.getElem?_append_right (by simp [i, hlen])]
  simp [i, hlen]
 refine Rel.step hr (by simp [St.set, St.kill, hr.len]) hr.cH hρ (fun t' s hs => ?_) ⟨by simp [g', hlen], fun i' o' hi' => ?_⟩
 ·by_cases e : t = t'
  ·subst e
   simp only [St.set] at hs
   rw [List.getElem?_set_self (by simp [St.kill]; exact aD ht)] at hs
   cases hs
   refine .inr (.inl ?_)
   rw [f1]
   exact .ptr iQ
  ·simp only [St.set] at hs
   rw [List.getElem?_set_ne e] at hs
   rcases St.kn hs with h | ⟨h1, h2⟩
   ·exact .inl h
   ·refine .inr (.inr ⟨h1, rfl, fun o' ho' => hk o' ?_, fun s0 e0 => ⟨rfl, fun x hx hb => ⟨x, ?_, rfl⟩⟩⟩)
    ·cases o' with
     | box s0 =>
      cases s <;> simp [eS] at ho'
      subst ho'
      simp [rn, Ne.symm e]
     | lst l =>
      cases l with
      | cell s0 j =>
       cases s <;> simp [eS] at ho'
       ·subst ho'; simp [bV] at h2; simp [rn, h2]
       ·subst ho'; simp [bV] at h2; simp [rn, h2]
       ·obtain ⟨rfl, -⟩ := ho'; simp [rn, Ne.symm e]
      | _ => rfl
     | _ => rfl
    ·have hne : t ≠ s0 := fun e3 => by
      subst e3
      have := bJ e0
      rw [h2] at this
      cases this
     show ((st.kill t).set t _).tmps[s0]? = some x
     simp only [St.set]
     rw [List.getElem?_set_ne hne]
     simp [St.kill, hx, cF hb]
 ·simp only at hi'
  by_cases e : i' < st.H.length
  ·rw [List.getElem?_append_left e] at hi'
   exact (hr.hp.2 i' o' hi').jD hf (hk _ rfl) (fun j => hk _ rfl) hρ
  ·have hlt := aD hi'
   simp at hlt
   have : i' = i := by simp only [i]; omega
   subst this
   rw [List.getElem?_append_right (by simp [i])] at hi'
   simp only [i, Nat.sub_self, List.getElem?_cons_zero, Option.some.injEq] at hi'
   subst hi'
   have h5 : ∀ (j : Nat) (s : SV), cs[j]? = some s → ∃ u, c[j]? = some u ∧ RC g' w (.ai i j) u s ∧ u.oneCell' = true := fun j s hj => by
    obtain ⟨u, u1, u2, u3⟩ := f5 j s hj
    refine ⟨u, u1, ?_, u3⟩
    cases s with
    | d x => exact (show Rd g w u x from u2).aG hf hρ
    | own n xs =>
     rcases (show bA g w (.cell t j) u n xs from u2) with h | ⟨k1, off, cap, c1, T1, us, x1, x2, x3, x4, x5, x6, x7, x8⟩
     ·exact .inl h
     ·exact .inr ⟨k1, off, cap, c1, T1, us, x1, (by show rn (g.ow k1) = _; rw [x2]; simp [rn]), x3, x4, x5, x6, x7, fun i0 x hx j0 y hy => (x8 i0 x hx j0 y hy).aG hf hρ⟩
    | undef => trivial
    | _ => exact u2.elim
   obtain ⟨e1, e2⟩ := sM nl cs cs' hc h5
   exact ⟨k, c, T, iQ, (by show rn (g.ow k) = _; rw [f2]; simp [rn]), f3, by rw [f4, e1], e2⟩
def Al (st : St) (t : Nat) (nl : List (Nat × Nat)) : Option (St × ar × Hp) := match st.tmps[t]? with
 | some (.box cs) => (reC nl cs).map fun cs' => (⟨((st.kill t).set t (.d (.ptr st.H.length 0))).tmps, []⟩, .cells cs', st.H)
 | _ => none
theorem lX : ∀ (n : Nat) (l : List (Nat × SV)) (t j : Nat) (s : SV), (spL l n t)[j]? = some s → s = .undef ∨ (t + j, s) ∈ l
 | 0, l, t, j, s, h => by simp [spL] at h
 | n + 1, [], t, j, s, h => by
  simp only [spL] at h
  cases j with
  | zero => simp at h; exact .inl h.symm
  | succ j =>
   simp only [List.getElem?_cons_succ] at h
   rcases lX n [] (t + 1) j s h with h | h
   ·exact .inl h
   ·cases h
 | n + 1, (t', x) :: r, t, j, s, h => by
  by_cases e : t' = t
  ·subst e
   simp only [spL, ↓reduceIte] at h
   cases j with
   | zero => simp at h; subst h; exact .inr (by simp)
   | succ j =>
    simp only [List.getElem?_cons_succ] at h
    rcases lX n r (t' + 1) j s h with h | h
    ·exact .inl h
    ·exact .inr (List.mem_cons_of_mem _ (by rw [show t' + 1 + j = t' + (j + 1) by omega] at h; exact h))
  ·simp only [spL, e, ↓reduceIte] at h
   cases j with
   | zero => simp at h; exact .inl h.symm
   | succ j =>
    simp only [List.getElem?_cons_succ] at h
    rcases lX n ((t', x) :: r) (t + 1) j s h with h | h
    ·exact .inl h
    ·exact .inr (by rw [show t + 1 + j = t + (j + 1) by omega] at h; exact h)
theorem YB.wy {l tp n : Nat} {R : Loop} {ds : List (Nat × D)} {y : D} {H H' : List ar} (hst : R.state = .ready) (hpe : R.pending = none) (hps : R.params = #[tp]) (hlen : R.tmps.size = n) (L : List (Nat × SV))
  (hd : ∀ t s, (t, s) ∈ L → (t = tp ∧ s = .d y) ∨ (t ≠ tp ∧ ∃ d, s = .d d ∧ (t, d) ∈ ds))
  (h : SWR P (some l) R.assign (sp n L H) (fun s1 => SWR P (some l) R.body s1 (fun s2 => s2.H = H'))) : YB P (kJ l R ds) l [.d y] H H' := by
 refine YB.xz (s0 := sp n L H) hst hpe hps rfl (by rw [hlen]; exact kP n L 0) (fun t s hs => ?_) h
 rcases lX n L 0 t s hs with rfl | hm
 ·exact .inl rfl
 ·rw [Nat.zero_add] at hm
  rcases hd _ _ hm with ⟨rfl, rfl⟩ | ⟨h1, d, rfl, h2⟩
  ·exact .inr ⟨y, rfl, .inl ⟨rfl, rfl⟩⟩
  ·exact .inr ⟨d, rfl, .inr ⟨h1, h2⟩⟩
end
end Go.Sh
namespace Go.Sh
section
variable {P : Program} {st : St} {Q : Exit → St → Prop}
theorem dJ.xl {c : Code} {ob : ar} {H0 : Hp} {q : Hp × Nat} (hq : mw H0 ob = some q) (t n : Nat) (nl : List (Nat × Nat)) (L : List Nat) (l : List (Nat × SV)) (h : (Al st t nl).map (fun p => (p.2.1, p.2.2)) = some (ob, H0)) (hs : (Al st t nl).bind (fun p => aV n L p.1) = some (l, []))
  (hn : dJ P c (sp n l q.1) Q) : dJ P c st Q := by
 unfold Al at h hs
 split at h
 ·rename_i cs ht
  simp only [ht] at hs
  simp only [Option.map_map, Option.map_eq_some_iff] at h
  obtain ⟨cs', h1, h2⟩ := h
  simp only [h1] at hs
  simp only [Function.comp, Prod.mk.injEq] at h2
  obtain ⟨rfl, rfl⟩ := h2
  cases hq
  simp only [Option.map_some, Option.bind_some] at hs
  intro a w g hr
  obtain ⟨g', r', f'⟩ := hr.xl ht h1
  have r2 := r'.bk (st' := sp n l (st.H ++ [.cells cs'])) (ay (by
   unfold aV at hs ⊢
   split at hs
   ·rename_i hc
    rw [if_pos hc]
    simp only [Option.some.injEq, Prod.mk.injEq] at hs ⊢
    exact ⟨hs.1, trivial⟩
   ·cases hs))
  refine Code.wp_mono (fun e a' w' hh => ?_) (hn a w g' r2)
  obtain ⟨ds, a0, st', g2, m, e0, q, r, f⟩ := hh
  exact ⟨ds, a0, st', g2, m, e0, q, r, f'.trans f⟩
 ·cases h
def rN (st : St) (t j n : Nat) : Option St := match st.tmps[t]? with
 | some (.box cs) => match cs[j]? with
  | some (.d .bW) => some (st.set t (.box (cs.set j (.d (.list n [])))))
  | _ => none
 | _ => none
theorem Rel.rN {st' : St} {a : Act} {w : World} {g : Gh} {t j n : Nat} (hr : Rel st a w g) (h : Sh.rN st t j n = some st') : Rel st' a w g := by
 unfold Sh.rN at h
 split at h
 ·rename_i cs ht
  split at h
  ·rename_i hc
   cases h
   refine Rel.step hr (by simp [St.set, hr.len]) hr.cH (fun _ _ h => h) (fun t' s hs => ?_) hr.hp
   by_cases e : t = t'
   ·subst e
    simp only [St.set] at hs
    rw [List.getElem?_set_self (aD ht)] at hs
    cases hs
    refine .inr (.inl ?_)
    obtain ⟨k, c, T, f1, f2, f3, f4, f5⟩ := (show RS g w st.tmps (valOf a) t (valOf a t) (.box cs) from hr.tmp t _ ht)
    refine ⟨k, c, T, f1, f2, f3, by simp [f4], fun j' s' hj => ?_⟩
    by_cases ej : j = j'
    ·subst ej
     rw [List.getElem?_set_self (aD hc)] at hj
     cases hj
     obtain ⟨u, u1, u2, u3⟩ := f5 j _ hc
     obtain ⟨a0, rfl⟩ := Rd.gE (show Rd g w u .bW from u2)
     exact ⟨_, u1, .iD, u3⟩
    ·rw [List.getElem?_set_ne ej] at hj
     exact f5 j' s' hj
   ·simp only [St.set] at hs
    rw [List.getElem?_set_ne e] at hs
    refine .inr (.inr ⟨hs, rfl, fun o' _ => az.refl _ _ _, fun s0 e0 => ⟨rfl, fun x hx hb => ?_⟩⟩)
    by_cases e3 : t = s0
    ·subst e3
     rw [ht] at hx
     cases hx
     exact ⟨.box (cs.set j (.d (.list n []))), by simp only [St.set]; rw [List.getElem?_set_self (aD ht)], rfl⟩
    ·exact ⟨x, by simp only [St.set]; rw [List.getElem?_set_ne e3]; exact hx, rfl⟩
  ·cases h
 ·cases h
theorem SW.rN {c : Code} (t j n' n : Nat) (H : List ar) (L : List Nat) (l : List (Nat × SV)) (hst : (Sh.rN st t j n').bind (aV n L) = some (l, H)) {pu : Bool} (h : SW P pu c (sp n l H) Q) : SW P pu c st Q := by
 simp only [Option.bind_eq_some_iff] at hst
 obtain ⟨st1, h1, h2⟩ := hst
 exact fun a w g hr => h a w g ((hr.rN h1).bk (ay h2))
def Cu (tp : Nat) (y : D) (ds : List (Nat × D)) : List (Nat × SV) → Prop
 | [] => True
 | (t, s) :: r => ((t = tp ∧ s = .d y) ∨ (t ≠ tp ∧ ∃ d, s = .d d ∧ (t, d) ∈ ds)) ∧ Cu tp y ds r
theorem tU {tp : Nat} {y : D} {ds : List (Nat × D)} : ∀ {L : List (Nat × SV)}, Cu tp y ds L → ∀ t s, (t, s) ∈ L → (t = tp ∧ s = .d y) ∨ (t ≠ tp ∧ ∃ d, s = .d d ∧ (t, d) ∈ ds)
 | (t0, s0) :: r, h, t, s, hm => by
  rcases List.mem_cons.1 hm with e | hm
  ·cases e; exact h.1
  ·exact tU h.2 t s hm
theorem dJ.Am {gop : Operand} {ps : Array Tmp} {assign body : Code} {f : FuncId} {caps : List D} {H' : List ar} (ds : List (Nat × D)) (hg : bK st gop = some (.fn (.func f) [] caps)) (hfn : wH P f = true) (hn : st.tmps.all eh = true)
  (hds : ds.map (fun p => st.tmps[p.1]?) = ds.map (fun p => some (SV.d p.2)))
  (hf : ∀ (l : Nat) (R : Loop), R.state = .ready → R.pending = none → R.params = ps → R.assign = assign → R.body = body → R.tmps.size = st.tmps.length → SBC P (kJ l R ds) f (.d (.fn (.yield l) [] []) :: caps.map .d) st.H H')
  (hq : Q .normal ⟨st.tmps, H'⟩) : dJ P (.rangeFunc gop ps assign body) st Q :=
 dJ.An (ds := ds) hg hfn hn (fun t d h => by
  have := List.map_inj_left.1 hds (t, d) h
  exact this) hf hq
end
end Go.Sh
namespace Go.Sh
section
variable {P : Program} {ops : Array Oper} {k : Nat} {st : St} {Q : St → Prop}
end
end Go.Sh
namespace Go.Sh
section
variable {P : Program} {st : St} {ops : Array Oper} {k : Nat}
end
end Go.Sh
namespace Go.Sh
section
variable {P : Program} {pu : Bool} {ops : Array Oper} {k n : Nat} {l0 : List (Nat × SV)} {H : List ar}
def xX : Nat → Code → Code
 | 0, c => c
 | j + 1, c => match c with | .seq _ y => xX j y | _ => .skip
def uu (P : Program) : Nat → Code → St → Option St
 | 0, _, st => some st
 | j + 1, c, st => match c with
  | .seq (.region _ ops b) y => bif b then none else (fB P [] ops ops.size 0 st).bind (uu P j y)
  | _ => none
theorem SW.uu {Q : Exit → St → Prop} : ∀ (j : Nat) (c : Code) (st st' : St), Sh.uu P j c st = some st' → SW P pu (xX j c) st' Q → SW P pu c st Q
 | 0, c, st, st', h, hn => by cases h; exact hn
 | j + 1, c, st, st', h, hn => by
  simp only [Sh.uu] at h
  split at h
  ·rename_i id ops b y
   cases b with
   | true => cases h
   | false =>
    simp only [cond_false, Option.bind_eq_some_iff] at h
    obtain ⟨st1, h1, h2⟩ := h
    refine SW.seq (SW.au (OWk.seg (k := 0) ops.size h1 (OWk.done (by simp) ?_)))
    exact SW.uu j y st1 st' h2 hn
  ·cases h
theorem SW.R {c : Code} {Q : Exit → St → Prop} (j : Nat) (l : List (Nat × SV)) (hn : SW P pu (xX j c) (sp n l H) Q) (h : (Sh.uu P j c (sp n l0 H)).bind (aV n (l.map (·.1))) = some (l, H) := by kernel_rfl) : SW P pu c (sp n l0 H) Q := by
 obtain ⟨st1, h1, h2⟩ := Option.bind_eq_some_iff.1 h
 exact SW.uu j c _ st1 h1 (SW.kp n H _ l h2 hn)
theorem OWk.G {Q : St → Prop} (j : Nat) (l : List (Nat × SV)) (hn : OWk P pu ops (k + j) (sp n l H) Q) (h : (fB P [] ops j k (sp n l0 H)).bind (aV n (l.map (·.1))) = some (l, H) := by kernel_rfl) : OWk P pu ops k (sp n l0 H) Q :=
 OWk.sg n H [] _ j l h hn
theorem OBk.G {m : Nat} {Q : St → Prop} (j : Nat) (l : List (Nat × SV)) (hn : OBk P ops m (k + j) (sp n l H) Q) (hm : decide (k + j ≤ m) = true := by kernel_rfl) (h : (ct P [] ops j k (sp n l0 H)).bind (aV n (l.map (·.1))) = some (l, H) := by kernel_rfl) : OBk P ops m k (sp n l0 H) Q :=
 OBk.sg n H [] _ j l hm h hn
theorem OQk.G {Q : St → Prop} (j : Nat) (l : List (Nat × SV)) (hn : OQk P ops (k + j) (sp n l H) Q) (h : (ct P [] ops j k (sp n l0 H)).bind (aV n (l.map (·.1))) = some (l, H) := by kernel_rfl) : OQk P ops k (sp n l0 H) Q :=
 OQk.sg n H [] _ j l h hn
theorem OWk.D {st : St} {Q : St → Prop} (hq : Q st) (h : decide (ops.size ≤ k) = true := by kernel_rfl) : OWk P pu ops k st Q := OWk.done h hq
theorem OTk.D {st : St} {Q : Exit → St → Prop} (hq : Q .normal st) (h : decide (ops.size ≤ k) = true := by kernel_rfl) : OTk P ops k st Q := OTk.done h hq
theorem OWk.O {Q : St → Prop} {d : Option Tmp} {s : SV} (l : List (Nat × SV)) (hb : BAt P ops k (sp n l0 H) d s) (hn : OWk P pu ops (k + 1) (sp n l H) Q) (hst : aV n (l.map (·.1)) ((sp n l0 H).put d s) = some (l, H) := by kernel_rfl) : OWk P pu ops k (sp n l0 H) Q :=
 OWk.on n H _ l hb hst hn
theorem OBk.O {m : Nat} {Q : St → Prop} {d : Option Tmp} {s : SV} (l : List (Nat × SV)) (hb : BAt P ops k (sp n l0 H) d s) (hn : OBk P ops m (k + 1) (sp n l H) Q) (hm : decide (k < m) = true := by kernel_rfl) (hst : aV n (l.map (·.1)) ((sp n l0 H).put d s) = some (l, H) := by kernel_rfl) : OBk P ops m k (sp n l0 H) Q :=
 OBk.on n H _ l hm hb hst hn
theorem OTk.M {Q : Exit → St → Prop} {st : St} (m : Nat) (h : OWk P false (ops.toList.take m).toArray k st (fun s => OTk P ops m s Q)) (hg : rV ops k m = true := by kernel_rfl) : OTk P ops k st Q := OTk.pre m hg h
theorem OWk.C {Q : St → Prop} {f : FuncId} {args : List SV} {ls : List Loc} {gs : List (Nat × Nat)} {d : Option Tmp} {r : SV} (tr : List Nat) (l : List (Nat × SV)) (hp : PC P f args r) (hn : OWk P pu ops (k + 1) (sp n l H) Q) (h : dE P ops k (sp n l0 H) tr = some (d, f, args, ls, gs) := by kernel_rfl) (hr : (m6 r && (ls.isEmpty || jz r)) = true := by kernel_rfl)
  (hst : aV n (l.map (·.1)) (((sp n l0 H).fp gs).put d r) = some (l, H) := by kernel_rfl) : OWk P pu ops k (sp n l0 H) Q := OWk.cl n H tr _ l hp h hr hst hn
theorem OWk.C0 {Q : St → Prop} {f : FuncId} {args : List SV} (d : Option Tmp) {r : SV} (l : List (Nat × SV)) (hp : PC P f args r) (hn : OWk P pu ops (k + 1) (sp n l H) Q) (h : dE P ops k (sp n l0 H) [] = some (d, f, args, [], []) := by kernel_rfl) (hr : m6 r = true := by kernel_rfl)
  (hst : aV n (l.map (·.1)) ((sp n l0 H).put d r) = some (l, H) := by kernel_rfl) : OWk P pu ops k (sp n l0 H) Q := OWk.cl n H [] _ l hp h (by rw [hr]; rfl) hst hn
theorem SW.K {c : Code} {Q : Exit → St → Prop} (l : List (Nat × SV)) (h : SW P pu c (sp n l H) Q) (hst : aV n (l.map (·.1)) (sp n l0 H) = some (l, H) := by kernel_rfl) : SW P pu c (sp n l0 H) Q := SW.kp n H _ l hst h
theorem SW.B {st : St} {Q : Exit → St → Prop} {c : Operand} {x y : Code} (b : Bool) (hT : b = true → SW P pu x st Q) (hF : b = false → SW P pu y st Q) (hc : bK st c = some (.bool b) := by kernel_rfl) : SW P pu (.cond c x y) st Q := SW.BN hc hT hF
theorem SW.S {Q : Exit → St → Prop} {st : St} {id : Nat} {y : Code} (h : OWk P pu ops 0 st (thenS (fun s => SW P pu y s Q) Q .normal)) : SW P pu (.seq (.region id ops false) y) st Q := SW.seq (SW.au h)
theorem OWk.E {st : St} {N : St → Prop} {Q : Exit → St → Prop} (hq : N st) (h : decide (ops.size ≤ k) = true := by kernel_rfl) : OWk P pu ops k st (thenS N Q .normal) := OWk.done h hq
theorem OWk.CH {Q : St → Prop} {f : FuncId} {args : List SV} (d : Option Tmp) {r : SV} {H' : List ar} (l : List (Nat × SV)) (hp : SC P false f args H r H') (hn : OWk P false ops (k + 1) (sp n l H') Q) (h : dE P ops k (sp n l0 H) [] = some (d, f, args, [], []) := by kernel_rfl)
  (hr : (m6 r && (sp n l0 H).tmps.all eh) = true := by kernel_rfl) (hst : aV n (l.map (·.1)) ⟨((sp n l0 H).put d r).tmps, H'⟩ = some (l, H') := by kernel_rfl) : OWk P false ops k (sp n l0 H) Q := OWk.clH n _ l hp h hr hst hn
theorem OWk.M {Q : St → Prop} (j : Nat) (b : Bool) (S : Bool → List (Nat × SV)) (l : Bool → List (Nat × SV)) (h : OWk P pu ops (k + j) (sp n (l b) H) Q) (h0 : sp n l0 H = sp n (S b) H := by kernel_rfl) (hT : (fB P [] ops j k (sp n (S true) H)).bind (aV n ((l true).map (·.1))) = some (l true, H) := by kernel_rfl)
  (hF : (fB P [] ops j k (sp n (S false) H)).bind (aV n ((l true).map (·.1))) = some (l false, H) := by kernel_rfl) : OWk P pu ops k (sp n l0 H) Q := OWk.mg n H _ j b (fun b => sp n (S b) H) l h0 hT hF h
end
end Go.Sh
namespace Go.Sh
def wI : Loc → Bool
 | .ai _ _ => true
 | _ => false
def px (ls : List Loc) (H : Hp) : Hp := bif ls.any wI then H.mapIdx (gk ls) else H
theorem sZ {ls : List Loc} (h : ls.any wI = false) (i j : Nat) (s : SV) : mo ls i j s = s := by
 cases s <;> try rfl
 simp only [mo]
 split
 ·rename_i hc
  have : ls.any wI = true := List.any_eq_true.2 ⟨.ai i j, by simpa using hc, rfl⟩
  rw [h] at this
  cases this
 ·rfl
theorem uL {ls : List Loc} (h : ls.any wI = false) (i : Nat) (o : ar) : gk ls i o = o := by
 cases o with
 | cells cs =>
  simp only [gk]
  congr 1
  apply List.ext_getElem?
  intro j
  simp only [List.getElem?_mapIdx]
  cases cs[j]? with
  | none => rfl
  | some s => simp [sZ h]
 | bld T e bs =>
  simp only [gk]
  split
  ·rename_i hc
   have : ls.any wI = true := List.any_eq_true.2 ⟨.ai i 1, by simpa using hc, rfl⟩
   rw [h] at this
   cases this
  ·rfl
 | _ => rfl
theorem qS (ls : List Loc) (H : Hp) : H.mapIdx (gk ls) = px ls H := by
 unfold px
 cases h : ls.any wI with
 | true => rfl
 | false =>
  rw [cond_false]
  apply List.ext_getElem?
  intro j
  simp only [List.getElem?_mapIdx]
  cases H[j]? with
  | none => rfl
  | some o => simp [uL h]
section
variable {P : Program} {pu : Bool} {ops : Array Oper} {k n : Nat} {l0 : List (Nat × SV)} {H : List ar}
theorem OWk.CR {Q : St → Prop} {f : FuncId} {args : List SV} {ls : List Loc} (d : Option Tmp) {r : SV} {H' : List ar} (l : List (Nat × SV)) (hp : SC P true f args (px ls H) r H') (hn : OWk P pu ops (k + 1) (sp n l H) Q)
  (h : dE P ops k (sp n l0 H) [] = some (d, f, args, ls, []) := by kernel_rfl) (hr : (m6 r && (ls.isEmpty || jz r)) = true := by kernel_rfl)
  (hst : aV n (l.map (·.1)) ((sp n l0 H).put d r) = some (l, H) := by kernel_rfl) : OWk P pu ops k (sp n l0 H) Q := by
 unfold dE at h
 split at h
 ·rename_i o ho
  split at h
  ·rename_i c hop
   split at h
   ·rename_i cs hcs
    simp only [Option.some.injEq, Prod.mk.injEq] at h
    obtain ⟨rfl, rfl, rfl, rfl, e2⟩ := h
    obtain ⟨h1, h2⟩ := aW ho
    rw [Bool.and_eq_true] at hr
    obtain ⟨f0, a0, l1, g0⟩ := cs
    cases e2
    unfold OWk
    rw [drop_cons h1]
    refine OW.Ac [] h2 hop hcs (by rw [qS]; exact hp) hr.1 (by have := hr.2; rw [Bool.or_eq_true] at this; exact this) ?_
    exact OWk.aG _ (ay hst) hn
   ·cases h
  ·cases h
 ·cases h
theorem OQk.CR {Q : St → Prop} {f : FuncId} {args : List SV} {ls : List Loc} (d : Option Tmp) {r : SV} {H' : List ar} (l : List (Nat × SV)) (hp : SC P true f args (px ls H) r H') (hn : OQk P ops (k + 1) (sp n l H) Q)
  (h : dE P ops k (sp n l0 H) [] = some (d, f, args, ls, []) := by kernel_rfl) (hr : (xZ r).isSome = true := by kernel_rfl)
  (hst : aV n (l.map (·.1)) ((sp n l0 H).put d r) = some (l, H) := by kernel_rfl) : OQk P ops k (sp n l0 H) Q := by
 unfold dE at h
 split at h
 ·rename_i o ho
  split at h
  ·rename_i c hop
   split at h
   ·rename_i cs hcs
    simp only [Option.some.injEq, Prod.mk.injEq] at h
    obtain ⟨rfl, rfl, rfl, rfl, e2⟩ := h
    obtain ⟨h1, h2⟩ := aW ho
    obtain ⟨v, hv⟩ := Option.isSome_iff_exists.1 hr
    refine OQk.call (ls := cs.ls) h1 h2 hop ?_ (by rw [← qS] at hp; exact hp) hv (OQk.aG _ (ay hst) hn)
    rw [hcs, ← e2]
   ·cases h
  ·cases h
 ·cases h
theorem OWk.asP {Q : St → Prop} {st : St} (p : Option Nat) (S : Option Nat → St) {i : Nat} (h0 : st = S p) (hp : p = some i) (h : OWk P pu ops k (S (some i)) Q) : OWk P pu ops k st Q := by
 subst h0
 rw [hp]
 exact h
def cp {α : Type} (n : Nat) (c : Cd α) (H : Hp) (i off : Nat) : Option (List α) :=
 (fL H i).bind fun cs => match cs[off]? with
  | some (.own n' ds) => if n' = n then ds.mapM c.dec else none
  | some (.d (.list n' ds)) => if n' = n then ds.mapM c.dec else none
  | _ => none
theorem xR {α : Type} {n : Nat} {c : Cd α} {H : Hp} {i off : Nat} {xs : List α} (h : cp n c H i off = some xs) :
  ∃ cs, H[i]? = some (.cells cs) ∧ (cs[off]? = some (.own n (xs.map c.enc)) ∨ cs[off]? = some (.d (.list n (xs.map c.enc)))) := by
 unfold cp at h
 simp only [Option.bind_eq_some_iff] at h
 obtain ⟨cs, h1, h2⟩ := h
 split at h2
 ·rename_i n' ds hc
  split at h2
  ·rename_i e
   subst e
   exact ⟨cs, ff h1, .inl (by rw [hc, jw c _ _ h2])⟩
  ·cases h2
 ·rename_i n' ds hc
  split at h2
  ·rename_i e
   subst e
   exact ⟨cs, ff h1, .inr (by rw [hc, jw c _ _ h2])⟩
  ·cases h2
 ·cases h2
theorem bQ.up {st : St} {o : Oper} {n : Nat} {xs : List D} (lc : Loc) (h : bQ P st o (.d (.list n xs))) : bQ P st o (.bf lc n xs) := by
 intro a w g hr
 obtain ⟨v, h1, h2⟩ := h a w g hr
 refine ⟨v, ?_, h2⟩
 exact (Rd.toList (show Rd g w v (.list n xs) from h1)).up
def qU (P : Program) (ops : Array Oper) (k : Nat) (st : St) : Option (Option Tmp × Nat × Nat × Hp) :=
 match dT ops k st with
 | some o => match o.op with
  | .load T x => match jJ st x, qL st x, kZ st x with
   | none, none, some (i, off) => if (!(P.underlying T).isNone && !cy P T && o.dst.isSome) = true then some (o.dst, i, off, st.H) else none
   | _, _, _ => none
  | _ => none
 | none => none
theorem BAt.ldL {α : Type} {c : Cd α} {n' i off : Nat} {xs : List α} {H0 : Hp} {d : Option Tmp} {st : St} (hx : cp n' c H0 i off = some xs) (h : qU P ops k st = some (d, i, off, H0)) : BAt P ops k st d (.bf (.ai i off) n' (xs.map c.enc)) := by
 obtain ⟨cs, e1, e2⟩ := xR hx
 unfold qU at h
 split at h
 ·rename_i o ho
  split at h
  ·rename_i T xo hop
   split at h
   ·rename_i i' off' h1 h2 h3
    split at h
    ·rename_i hc
     simp only [Bool.and_eq_true, Bool.not_eq_true'] at hc
     simp only [Option.some.injEq, Prod.mk.injEq] at h
     obtain ⟨rfl, rfl, rfl, rfl⟩ := h
     obtain ⟨g1, g2⟩ := aW ho
     have hu : ¬ (P.underlying T).isNone = true := by rw [hc.1.1]; exact Bool.false_ne_true
     have ha : ¬ cy P T = true := by rw [hc.1.2]; exact Bool.false_ne_true
     have hd : ∀ s, cs[off']? = some s → ∃ r, cs.drop off' = s :: r := fun s hs => by
      have hlt := aD hs
      rw [List.drop_eq_getElem_cons hlt]
      rw [List.getElem?_eq_getElem hlt] at hs
      cases hs
      exact ⟨_, rfl⟩
     rcases e2 with e2 | e2
     ·obtain ⟨r, hr⟩ := hd _ e2
      refine ⟨o, g1, g2, bQ.fH ?_, rfl, rfl⟩
      simp only [bop, hop, kh, h1, h2, h3, e1, hr]
      unfold jb
      rw [if_neg hu, if_neg ha]
     ·obtain ⟨r, hr⟩ := hd _ e2
      refine ⟨o, g1, g2, bQ.up _ (bQ.fH ?_), rfl, rfl⟩
      simp only [bop, hop, kh, h1, h2, h3, e1, hr]
      unfold jb
      rw [if_neg hu, if_neg ha]
    ·cases h
   ·cases h
  ·cases h
 ·cases h
theorem tI (p : Option Nat) : (cP.enc p).cells = [cP.enc p] := by cases p <;> rfl
theorem BAt.pI {xs : List (Option Nat)} {j : Int} {y : Option Nat} {d : Option Tmp} {l : Option Loc} {n : Nat} {st : St} (hy : idx xs j = some y) (h : tf P ops k st = some (d, l, n, xs.map cP.enc, j)) : BAt P ops k st d (aO l [cP.enc y]) := by
 rw [← tI]
 exact BAt.index hy h
theorem SC.gL {f : FuncId} {fn : Func} {c : Code} {args : List SV} {H : List ar} {r : SV} (hf : P.funcs[f]? = some fn) (hb : fn.body = some c)
  (h : SW P true c (fJ fn.ntmps args H) (aA P fn.results.toList H r)) : SC P true f args H r H := by
 refine SC.br hf hb ?_
 intro a w g hr
 refine Code.wp_mono (fun e a' w' hh => ?_) (h a w g hr)
 obtain ⟨st', g', ⟨he, l, h1, h2⟩, r1, f⟩ := hh
 exact ⟨st'.gD l, g', ⟨he, mC h1, by rw [St.rM]; exact h2⟩, r1.gD, f⟩
end
end Go.Sh
namespace Go.Sh
section
variable {P : Program} {st : St}
theorem Rel.zx {a : Act} {w : World} {g : Gh} {i off n : Nat} {xs : List D} {cs : List SV} (hr : Rel st a w g) (hi : st.H[i]? = some (.cells cs)) (hc : cs[off]? = some (.own n xs)) (hn : st.tmps.all eh = true) :
  ∃ g', Rel ⟨st.tmps, st.H.set i (.cells (cs.set off (.d (.list n xs))))⟩ a w g' ∧ Fr false g w g' w := by
 let rn : Own → Own := fun o => if o = .lst (.ai i off) then .free else o
 have rnO : ∀ {o}, o ≠ .lst (.ai i off) → rn o = o := fun h => by simp [rn, h]
 have hk : ∀ o', o' ≠ .lst (.ai i off) → az o' g w (g.ren rn) w := fun o' h => az.ren (rnO h)
 refine ⟨g.ren rn, ?_, ⟨Nat.le_refl _, hk _ (by simp), hk _ (by simp), fun _ _ h => h, nofun, nofun, nofun, ⟨rfl, rfl⟩⟩⟩
 obtain ⟨k, c, T0, f1, f2, f3, f4, f5⟩ := hr.hp.2 i _ hi
 obtain ⟨u, u1, u2, u3⟩ := f5 off _ hc
 refine Rel.step hr hr.len hr.cH (fun _ _ h => h) (fun t s hs => ?_) ⟨by simp [Gh.ren, hr.hp.1], fun i' o' hi' => ?_⟩
 ·have hnh : eh s = true := List.all_eq_true.1 hn s (List.mem_iff_getElem?.2 ⟨t, hs⟩)
  refine .inr (.inr ⟨hs, rfl, fun o' ho' => hk o' (fun e2 => ?_), fun s0 e0 => ⟨rfl, fun x hx hb => ⟨x, hx, rfl⟩⟩⟩)
  subst e2; exact lp hnh ho'
 ·simp only at hi'
  by_cases e : i = i'
  ·subst e
   rw [List.getElem?_set_self (aD hi)] at hi'
   cases hi'
   refine ⟨k, c, T0, f1, by simp [Gh.ren, f2, rn], f3, by simp [f4], fun j s hj => ?_⟩
   by_cases ej : off = j
   ·subst ej
    rw [List.getElem?_set_self (aD hc)] at hj
    cases hj
    refine ⟨u, u1, ?_, u3⟩
    have ho : bA g w (.ai i off) u n xs := u2
    refine cN.free (l := .ai i off) (rnO (by simp)) (by simp [rn]) ?_
    rcases ho with ⟨rfl, a, e⟩ | ⟨k, off, cap, c, T, us, hv, hk, hb, hl, hz, hn, hc, hr⟩
    ·exact .inl ⟨rfl, a, _, e⟩
    ·exact .inr ⟨k, off, cap, c, T, _, us, hv, by simp [hk, okL], hb, hl, hn, hc, hr⟩
   ·rw [List.getElem?_set_ne ej] at hj
    obtain ⟨v, v1, v2, v3⟩ := f5 j s hj
    exact ⟨v, v1, v2.aG (hk _ (by simp)) (hk _ (by simp; omega)) (fun _ _ h => h), v3⟩
  ·rw [List.getElem?_set_ne e] at hi'
   exact (hr.hp.2 i' o' hi').jD (hk _ (by simp)) (hk _ (by simp)) (fun j => hk _ (by simp; omega)) (fun _ _ h => h)
def hFz {α : Type} (n : Nat) (c : Cd α) (H : Hp) (i off : Nat) : Option (List α × Hp) :=
 (fL H i).bind fun cs => match cs[off]? with
  | some (.own n' ds) => if n' = n then (ds.mapM c.dec).map fun xs => (xs, H.set i (.cells (cs.set off (.d (.list n ds))))) else none
  | some (.d (.list n' ds)) => if n' = n then (ds.mapM c.dec).map fun xs => (xs, H) else none
  | _ => none
theorem xS {α : Type} {n : Nat} {c : Cd α} {H H' : Hp} {i off : Nat} {xs : List α} (h : hFz n c H i off = some (xs, H')) :
  ∃ cs, H[i]? = some (.cells cs) ∧ ((cs[off]? = some (.own n (xs.map c.enc)) ∧ H' = H.set i (.cells (cs.set off (.d (.list n (xs.map c.enc)))))) ∨ (cs[off]? = some (.d (.list n (xs.map c.enc))) ∧ H' = H)) := by
 unfold hFz at h
 simp only [Option.bind_eq_some_iff] at h
 obtain ⟨cs, h1, h2⟩ := h
 split at h2
 ·rename_i n' ds hc
  split at h2
  ·rename_i e
   subst e
   simp only [Option.map_eq_some_iff, Prod.mk.injEq] at h2
   obtain ⟨ys, h3, rfl, rfl⟩ := h2
   have := jw c _ _ h3
   exact ⟨cs, ff h1, .inl ⟨by rw [hc, this], by rw [this]⟩⟩
  ·cases h2
 ·rename_i n' ds hc
  split at h2
  ·rename_i e
   subst e
   simp only [Option.map_eq_some_iff, Prod.mk.injEq] at h2
   obtain ⟨ys, h3, rfl, rfl⟩ := h2
   have := jw c _ _ h3
   exact ⟨cs, ff h1, .inr ⟨by rw [hc, this], rfl⟩⟩
  ·cases h2
 ·cases h2
theorem OWk.fzH {ops : Array Oper} {k n : Nat} {Q : St → Prop} {α : Type} {c : Cd α} {n' i off : Nat} {xs : List α} {l : List (Nat × SV)} {H H' : Hp} (hx : hFz n' c H i off = some (xs, H')) (hl : ((sp n l H).tmps.all eh) = true) (h : OWk P false ops k (sp n l H') Q) :
  OWk P false ops k (sp n l H) Q := by
 obtain ⟨cs, e1, ⟨e2, rfl⟩ | ⟨e2, rfl⟩⟩ := xS hx
 ·intro a w g hr Qc hq
  obtain ⟨g', r, f⟩ := hr.zx (st := sp n l H) e1 e2 hl
  exact h a w g' r Qc fun st2 a2 w2 g2 q2 r2 f2 => hq st2 a2 w2 g2 q2 r2 (f.trans f2)
 ·exact h
theorem zt {α : Type} {n : Nat} {c : Cd α} {H H' : Hp} {i off : Nat} {xs : List α} (h : hFz n c H i off = some (xs, H')) : ∃ cs, H'[i]? = some (.cells cs) ∧ cs[off]? = some (.d (.list n (xs.map c.enc))) := by
 obtain ⟨cs, e1, ⟨e2, rfl⟩ | ⟨e2, rfl⟩⟩ := xS h
 ·exact ⟨_, List.getElem?_set_self (aD e1), List.getElem?_set_self (aD e2)⟩
 ·exact ⟨cs, e1, e2⟩
theorem BAt.ldZ {ops : Array Oper} {k : Nat} {α : Type} {c : Cd α} {n' i off : Nat} {xs : List α} {H0 H1 : Hp} {d : Option Tmp} (hx : hFz n' c H0 i off = some (xs, H1)) (h : qU P ops k st = some (d, i, off, H1)) : BAt P ops k st d (.d (.list n' (xs.map c.enc))) := by
 obtain ⟨cs, e1, e2⟩ := zt hx
 unfold qU at h
 split at h
 ·rename_i o ho
  split at h
  ·rename_i T xo hop
   split at h
   ·rename_i i' off' h1 h2 h3
    split at h
    ·rename_i hc
     simp only [Bool.and_eq_true, Bool.not_eq_true'] at hc
     simp only [Option.some.injEq, Prod.mk.injEq] at h
     obtain ⟨rfl, rfl, rfl, rfl⟩ := h
     obtain ⟨g1, g2⟩ := aW ho
     have hu : ¬ (P.underlying T).isNone = true := by rw [hc.1.1]; exact Bool.false_ne_true
     have ha : ¬ cy P T = true := by rw [hc.1.2]; exact Bool.false_ne_true
     have hlt := aD e2
     refine ⟨o, g1, g2, bQ.fH ?_, rfl, rfl⟩
     have hd : cs.drop off' = .d (.list n' (xs.map c.enc)) :: cs.drop (off' + 1) := by
      rw [List.drop_eq_getElem_cons hlt]
      rw [List.getElem?_eq_getElem hlt] at e2
      rw [Option.some.inj e2]
     simp only [bop, hop, kh, h1, h2, h3, e1, hd]
     unfold jb
     rw [if_neg hu, if_neg ha]
    ·cases h
   ·cases h
  ·cases h
 ·cases h
end
end Go.Sh
namespace Go.Sh
structure FrL (l : Nat) (g : Gh) (w : World) (g' : Gh) (w' : World) : Prop where
 size : w.heap.size ≤ w'.heap.size
 free : az .free g w g' w'
 out : ∀ (k : Nat) (b : Obj), k ≠ l → g.ow k = .out → w.heap[k]? = some b → g'.ow k = .out ∧ w'.heap[k]? = some b
 rho : ck g g'
 os : cq w w'
theorem FrL.of {pu : Bool} {l : Nat} {g g' : Gh} {w w' : World} (h : Fr pu g w g' w') : FrL l g w g' w' := ⟨h.size, h.free, fun k b _ h1 h2 => h.out k b h1 h2, h.rho, h.os⟩
theorem FrL.refl (l : Nat) (g : Gh) (w : World) : FrL l g w g w := FrL.of (Fr.refl false g w)
theorem FrL.trans {l : Nat} {g1 g2 g3 : Gh} {w1 w2 w3 : World} (h : FrL l g1 w1 g2 w2) (h' : FrL l g2 w2 g3 w3) : FrL l g1 w1 g3 w3 :=
 ⟨Nat.le_trans h.size h'.size, h.free.trans h'.free, fun k b hk h1 h2 => let ⟨x, y⟩ := h.out k b hk h1 h2; h'.out k b hk x y, fun i k a => h'.rho i k (h.rho i k a), h.os.trans h'.os⟩
def yI (l i : Nat) (d : D) (g : Gh) (w : World) : Prop :=
 ∃ (k : Nat) (c : Array Value) (T : TypeId) (fz : Nat × Nat) (v : Value), g.ρ[i]? = some k ∧ k ≠ l ∧ g.ow k = .out ∧ w.heap[k]? = some (.cells c T fz) ∧ c[0]? = some v ∧ v.oneCell' = true ∧ Rd g w v d
theorem yI.fr {l i : Nat} {d : D} {g g' : Gh} {w w' : World} (h : yI l i d g w) (f : FrL l g w g' w') : yI l i d g' w' := by
 obtain ⟨k, c, T, fz, v, h1, h2, h3, h4, h5, h6, h7⟩ := h
 obtain ⟨x, y⟩ := f.out k _ h2 h3 h4
 exact ⟨k, c, T, fz, v, f.rho i k h1, h2, x, y, h5, h6, h7.aG f.free f.rho⟩
def Bq (R : Loop) (jc : Code) (b : Bool) : Loop := if b then R else { R with state := .done, pending := some jc }
def CL (l : Nat) (R : Loop) (jc : Code) (ds : List (Nat × D)) (Dn : List (Nat × D)) (b : Bool) (g : Gh) (w : World) : Prop :=
 w.heap[l]? = some (.loop (Bq R jc b)) ∧ g.ow l = .out ∧ (∀ t d, (t, d) ∈ ds → Rd g w (R.tmps.getD t undef) d) ∧ ∀ i d, (i, d) ∈ Dn → yI l i d g w
section
variable {l : Nat} {R : Loop} {jc : Code} {ds Dn : List (Nat × D)} {b b' : Bool} {g g' : Gh} {w w' : World}
theorem CL.uD (h : CL l R jc ds Dn b g w) (f : FrL l g w g' w') (h1 : w'.heap[l]? = some (.loop (Bq R jc b'))) (h2 : g'.ow l = .out) : CL l R jc ds Dn b' g' w' :=
 ⟨h1, h2, fun t d hd => (h.2.2.1 t d hd).aG f.free f.rho, fun i d hd => (h.2.2.2 i d hd).fr f⟩
theorem CL.fr : CFr (CL l R jc ds Dn b) := fun g w g' w' h f =>
 h.uD (FrL.of f) (f.out l _ h.2.1 h.1).2 (f.out l _ h.2.1 h.1).1
theorem CL.ren (h : CL l R jc ds Dn b g w) : CL l R jc ds Dn b (g.ren (ak [] [])) w := by
 have kp : ∀ {v : Value} {d : D}, Rd g w v d → Rd (g.ren (ak [] [])) w v d := fun hr => hr.aG (az.ren rfl) (fun _ _ h => h)
 refine ⟨h.1, by simp [Gh.ren, h.2.1, ak], fun t d hd => kp (h.2.2.1 t d hd), fun i d hd => ?_⟩
 obtain ⟨k, c, T, fz, v, h1, h2, h3, h4, h5, h6, h7⟩ := h.2.2.2 i d hd
 exact ⟨k, c, T, fz, v, h1, h2, by simp [Gh.ren, h3, ak], h4, h5, h6, kp h7⟩
theorem CL.less {Dn' : List (Nat × D)} (h : CL l R jc ds Dn b g w) (hs : ∀ p ∈ Dn', p ∈ Dn) : CL l R jc ds Dn' b g w :=
 ⟨h.1, h.2.1, h.2.2.1, fun i d hd => h.2.2.2 i d (hs _ hd)⟩
theorem CL.more {Dn' : List (Nat × D)} (h : CL l R jc ds [] b' g' w') (h0 : CL l R jc ds Dn b g w) (f : FrL l g w g' w') : CL l R jc ds Dn b' g' w' :=
 h0.uD f h.1 h.2.1
def Ad (l : Nat) (CC : Bool → Gh → World → Prop) (H' : List ar) (b : Bool) (g : Gh) (w w' : World) : Prop :=
 ∃ g', RH g' w' H' ∧ CC b g' w' ∧ FrL l g w g' w' ∧ ∀ o, fA o = false → o ≠ .out → az o g w g' w'
def SBL (P : Program) (l : Nat) (CC : Bool → Gh → World → Prop) (f : FuncId) (args : List SV) (H H' : List ar) (b : Bool) (rv : Value → Prop) : Prop :=
 ∀ (w : World) (g : Gh) (vs : Array Value), CC true g w → fj g w vs args → RH g w H → Calls P f vs w fun e w' => ∃ v g', e = .returned v ∧ rv v ∧ RH g' w' H' ∧ CC b g' w' ∧ FrL l g w g' w'
def YBL (P : Program) (l : Nat) (CC : Bool → Gh → World → Prop) (args : List SV) (H H' : List ar) (b : Bool) : Prop :=
 ∀ (w : World) (g : Gh) (vs : Array Value), CC true g w → fj g w vs args → RH g w H → ∃ fn tmps assign body, (Instr.yield l vs).run P w = .ok (.round l fn tmps assign body) w ∧
  ∀ n, RoundIn Fence.wide n P l fn tmps assign body w fun e w' => e = .returned (.bool b) ∧ Ad l CC H' b g w w'
theorem YBL.more {P : Program} {args : List SV} {H H' : List ar} (h : YBL P l (CL l R jc ds []) args H H' b) : YBL P l (CL l R jc ds Dn) args H H' b := fun w g vs hC hA hH => by
 obtain ⟨fn, tmps, assign, body, h1, h2⟩ := h w g vs (hC.less (by simp)) hA hH
 refine ⟨fn, tmps, assign, body, h1, fun n => (h2 n).mono fun e w' hh => ?_⟩
 obtain ⟨he, g', k1, k2, k3, k4⟩ := hh
 exact ⟨he, g', k1, k2.more (Dn' := Dn) hC k3, k3, k4⟩
theorem uX {g3 : Gh} {w3 : World} {H' : List ar} {b0 : Obj} (hf : FrL l (g.ren (ak [] [])) w g3 w3) (hH : RH g3 w3 H') (hl : g.ow l = .out) (hb0 : w.heap[l]? = some b0) (hl3 : g3.ow l = .out) :
  ∃ G : Gh, G.ow l = .out ∧ FrL l g w G w3 ∧ RH G w3 H' ∧ ∀ o, fA o = false → o ≠ .out → az o g w G w3 := by
 have hlt : l < w.heap.size := (Array.getElem?_eq_some_iff.1 hb0).1
 have hlt3 : l < w3.heap.size := Nat.lt_of_lt_of_le hlt hf.size
 have hoth : ∀ {k : Nat}, k ≠ l → (w3.putObj l b0).heap[k]? = w3.heap[k]? := fun hk => bL hk
 have hsame : (w3.putObj l b0).heap[l]? = some b0 := World.putObj_heap_same hlt3
 have hf2 : Fr false (g.ren (ak [] [])) w g3 (w3.putObj l b0) := by
  refine ⟨?_, fun k b h1 h2 => ?_, fun k b h1 h2 => ?_, hf.rho, nofun, nofun, nofun, hf.os⟩
  ·have := hf.size
   simpa [World.putObj] using this
  ·obtain ⟨x, y⟩ := hf.free k b h1 h2
   exact ⟨x, by rw [hoth (fun e => by subst e; rw [hl3] at x; cases x)]; exact y⟩
  ·by_cases hk : k = l
   ·subst hk
    rw [hb0] at h2
    cases h2
    exact ⟨hl3, hsame⟩
   ·obtain ⟨x, y⟩ := hf.out k b hk h1 h2
    exact ⟨x, by rw [hoth hk]; exact y⟩
 have hH2 : RH g3 (w3.putObj l b0) H' := hH.aG (fun o ho k b h1 h2 => ⟨h1, by
  rw [hoth (fun e => by subst e; rw [hl3] at h1; subst h1; exact ho)]; exact h2⟩) (fun _ _ h => h) rfl
 obtain ⟨p1, p2⟩ := iu 0 hf2 hH2
 have hG := (p1.out l _ hl hb0).1
 refine ⟨_, hG, ⟨hf.size, fun k b h1 h2 => ?_, fun k b hk h1 h2 => ?_, p1.rho, hf.os⟩, ?_, fun o ho hne k b h1 h2 => ?_⟩
 ·obtain ⟨x, y⟩ := p1.free k b h1 h2
  exact ⟨x, by rw [← hoth (fun e => by subst e; rw [hG] at x; cases x)]; exact y⟩
 ·obtain ⟨x, y⟩ := p1.out k b h1 h2
  exact ⟨x, by rw [← hoth hk]; exact y⟩
 ·exact p2.aG (fun o ho k b h1 h2 => ⟨h1, by
   rw [← hoth (fun e => by subst e; rw [hG] at h1; subst h1; exact ho)]; exact h2⟩) (fun _ _ h => h) rfl
 ·obtain ⟨x, y⟩ := qW (t := 0) hf2 ho k b h1 h2
  exact ⟨x, by rw [← hoth (fun e => by subst e; rw [hl] at h1; exact hne h1.symm)]; exact y⟩
theorem SBL.call {P : Program} {f : FuncId} {args : List SV} {H H' : List ar} {rv : Value → Prop} (h : SBL P l (CL l R jc ds Dn) f args H H' b rv) (hC : CL l R jc ds Dn true g w) {vs : Array Value}
  (hA : fj (g.ren (ak [] [])) w vs args) (hH : RH (g.ren (ak [] [])) w H) : Calls P f vs w fun e w' => ∃ v, e = .returned v ∧ rv v ∧ Ad l (CL l R jc ds Dn) H' b g w w' := by
 refine (h w _ vs hC.ren hA hH).mono fun e w' hh => ?_
 obtain ⟨v, g3, rfl, hv, hH3, hC3, hf⟩ := hh
 obtain ⟨G, k1, k2, k3, k4⟩ := uX hf hH3 hC.2.1 hC.1 hC3.2.1
 exact ⟨v, rfl, hv, G, k3, hC.uD k2 hC3.1 k1, k2, k4⟩
theorem Rel.yw {st : St} {a : Act} {H' : List ar} {r : SV} {v : Value} {d : Option Tmp} (hr : Rel st a w g) (hn : st.tmps.all eh = true) (hH : RH g' w' H') (hf : FrL l g w g' w')
  (hkp : ∀ o, fA o = false → o ≠ .out → az o g w g' w') (hv : r = .tup [] ∧ v = .tuple #[] ∨ ∃ c, r = .d (.bool c) ∧ v = .bool c) : Rel ⟨(st.put d r).tmps, H'⟩ (a.put d v) w' g' := by
 refine Rel.step hr (by rw [cm]; simp only [St.eg]; exact hr.len) (by rw [put_defers]; exact hr.cH) hf.rho (fun t s hs => ?_) hH
 by_cases hdt : d = some t
 ·simp only at hs
  rw [hdt] at hs ⊢
  obtain ⟨rfl, hlt⟩ := St.bU hs
  refine .inr (.inl ?_)
  rw [bb (by rw [hr.len]; exact hlt)]
  rcases hv with ⟨rfl, rfl⟩ | ⟨c, rfl, rfl⟩
  ·exact ⟨#[], rfl, rfl, fun j s hj => by simp at hj⟩
  ·exact .bool
 ·simp only at hs
  have hput : s = .undef ∨ (st.tmps[t]? = some s ∧ ∀ t0 old, d = some t0 → st.tmps[t0]? = some old → mv old = true → bV t0 s = false) := by
   cases hdst : d with
   | none => rw [hdst] at hs; exact .inr ⟨hs, by simp⟩
   | some t0 =>
    rw [hdst] at hs hdt
    rcases St.gU (fun e => hdt (by rw [e])) hs with h | ⟨h1, h2⟩
    ·exact .inl h
    ·exact .inr ⟨h1, fun t1 old e => by cases e; exact h2 old⟩
  rcases hput with rfl | ⟨hs3, hs2⟩
  ·exact .inl rfl
  ·have hnh : eh s = true := List.all_eq_true.1 hn s (List.mem_iff_getElem?.2 ⟨t, hs3⟩)
   refine .inr (.inr ⟨hs3, bj hdt, fun o' ho' => ?_, fun s0 e => ?_⟩)
   ·have hne : o' ≠ .out := fun e => by subst e; exact sr ho'
    refine hkp o' ?_ hne
    cases o' with
    | obj i => exact absurd ho' iT
    | lst l =>
     cases l with
     | ai i j => exact absurd ho' (lp hnh)
     | _ => rfl
    | _ => rfl
   ·obtain ⟨x0, hx0, hb0⟩ := gr (hr.tmp t _ hs3) e
    have hd0 : d ≠ some s0 := fun e2 => by
     have := hs2 s0 _ e2 hx0 (dV hb0)
     rw [bJ e] at this
     cases this
    exact ⟨bj hd0, fun x hx hb => ⟨x, St.gj hx hb hd0, rfl⟩⟩
end
end Go.Sh
namespace Go.Sh
section
variable {P : Program} {l : Nat} {C : Bool → Gh → World → Prop} {b : Bool} {st : St} {Q : Bool → Exit → St → Prop}
def SWL (P : Program) (l : Nat) (C : Bool → Gh → World → Prop) (b : Bool) (c : Code) (st : St) (Q : Bool → Exit → St → Prop) : Prop :=
 ∀ a w g, Rel st a w g → C b g w → c.wp P (fun e a' w' => ∃ b' st' g', Q b' e st' ∧ Rel st' a' w' g' ∧ C b' g' w' ∧ FrL l g w g' w') a w
def vk (N : Bool → St → Prop) (Q : Bool → Exit → St → Prop) : Bool → Exit → St → Prop := fun b e s => match e with
 | .normal => N b s
 | e => Q b e s
def sh (id : Nat) (Q : Bool → Exit → St → Prop) : Bool → Exit → St → Prop := fun b e s => match e with
 | .exit id' => if id' = id then Q b .normal s else Q b (.exit id') s
 | e => Q b e s
theorem SWL.of (hC : ∀ b, CFr (C b)) {c : Code} (h : SW P false c st (Q b)) : SWL P l C b c st Q := fun a w g hr hc =>
 Code.wp_mono (fun e a' w' ⟨st', g', q, r, f⟩ => ⟨b, st', g', q, r, hC b _ _ _ _ hc f, FrL.of f⟩) (h a w g hr)
theorem SWL.seq {x y : Code} (h : SWL P l C b x st (vk (fun b' s => SWL P l C b' y s Q) Q)) : SWL P l C b (.seq x y) st Q := by
 intro a w g hr hc
 refine wp_seq (Code.wp_mono (fun e a' w' hh => ?_) (h a w g hr hc))
 obtain ⟨b', st', g', q, r, c', f⟩ := hh
 cases e with
 | normal =>
  refine Code.wp_mono (fun e2 a2 w2 hh2 => ?_) (q a' w' g' r c')
  obtain ⟨b2, st2, g2, q2, r2, c2, f2⟩ := hh2
  exact ⟨b2, st2, g2, q2, r2, c2, f.trans f2⟩
 | _ => exact ⟨b', st', g', q, r, c', f⟩
theorem SWL.kp {c : Code} (n : Nat) (H : List ar) (L : List Nat) (ll : List (Nat × SV)) (hst : aV n L st = some (ll, H)) (h : SWL P l C b c (sp n ll H) Q) : SWL P l C b c st Q :=
 fun a w g hr hc => h a w g (hr.bk (ay hst)) hc
theorem SWL.block {id : Nat} {c : Code} (h : SWL P l C b c st (sh id Q)) : SWL P l C b (.block id c) st Q := by
 intro a w g hr hc
 refine wp_block (Code.wp_mono (fun e a' w' hh => ?_) (h a w g hr hc))
 obtain ⟨b', st', g', q, r, c', f⟩ := hh
 cases e with
 | exit id' =>
  simp only [sh] at q
  simp only [Exit.inBlock]
  split at q
  ·rename_i hi; rw [if_pos hi]; exact ⟨b', st', g', q, r, c', f⟩
  ·rename_i hi; rw [if_neg hi]; exact ⟨b', st', g', q, r, c', f⟩
 | _ => exact ⟨b', st', g', q, r, c', f⟩
theorem SWL.cond {c : Operand} {x y : Code} {v : Bool} (hc : bK st c = some (.bool v)) (h : SWL P l C b (cond v x y) st Q) : SWL P l C b (.cond c x y) st Q := by
 cases v
 ·exact fun a w g hr hC => wp_cond (bG hr hc rfl) (by simpa using h a w g hr hC)
 ·exact fun a w g hr hC => wp_cond (bG hr hc rfl) (by simpa using h a w g hr hC)
theorem SWL.itH {γ β : Type} {c : Code} (n : Nat) (L : List Nat) {body : γ → Option (γ ⊕ β)} (sl : γ → List (Nat × SV)) (Hf : γ → Hp) (E : β → Bool → Exit → St → Prop) {fuel : Nat} {x : γ} {q : β} (hit : Sh.iter body fuel x = some q) (h0 : aV n L st = some (sl x, Hf x))
  (round : ∀ x o, body x = some o → SWL P l C true c (sp n (sl x) (Hf x)) (vk (fun b' s' => b' = true ∧ ∃ y, o = .inl y ∧ aV n L s' = some (sl y, Hf y)) (fun b' e s' => ∃ q, o = .inr q ∧ E q b' e s')))
  (after : ∀ b' e s', E q b' e s' → Q b' e s') : SWL P l C true (.loop c) st Q := by
 refine SWL.kp n _ L _ h0 ?_
 intro a w g hr hc
 refine jf (γ := γ) body (fun x a' w' => ∃ g', Rel (sp n (sl x) (Hf x)) a' w' g' ∧ C true g' w' ∧ FrL l g w g' w') q (fun x a1 w1 ⟨g1, r1, c1, f1⟩ o ho => ?_) fuel x a w ⟨g, hr, hc, FrL.refl _ _ _⟩ hit
 refine Code.wp_mono (fun e a' w' hh => ?_) (round x o ho a1 w1 g1 r1 c1)
 obtain ⟨b', st', g', qq, r, c', f⟩ := hh
 cases e with
 | normal => obtain ⟨rfl, y, rfl, h1⟩ := qq; exact ⟨y, rfl, g', r.bk (ay h1), c', f1.trans f⟩
 | _ => obtain ⟨q', rfl, h1⟩ := qq; exact ⟨q', rfl, fun e => ⟨b', st', g', after _ _ _ (e ▸ h1), r, c', f1.trans f⟩⟩
variable {ops : Array Oper} {d m i : Nat} {K : Bool → St → Prop}
def OL (P : Program) (l : Nat) (C : Bool → Gh → World → Prop) (ops : Array Oper) (d m : Nat) (b : Bool) (st : St) (K : Bool → St → Prop) : Prop :=
 ∀ a w g, Rel st a w g → C b g w → ∀ R : Act → World → Prop, (∀ b' st' a' w' g', K b' st' → Rel st' a' w' g' → C b' g' w' → FrL l g w g' w' → R a' w') →
  wpAnyIn Fence.wide 0 P .any ops (NX R) d (dq ops.size m) a w
def cr (P : Program) (l : Nat) (C : Bool → Gh → World → Prop) (ops : Array Oper) (i : Nat) (b : Bool) (st : St) (K : Bool → St → Prop) : Prop :=
 ∀ a w g, Rel st a w g → C b g w → ∀ (N R : Act → World → Prop), (∀ b' st' a' w' g', K b' st' → Rel st' a' w' g' → C b' g' w' → FrL l g w g' w' → N a' w') → wpOpIn Fence.wide 0 P ops (NX R) i N a w
theorem OL.fin (h : Region.ready .any ops (dq ops.size m) = []) (hk : K b st) : OL P l C ops 0 m b st K := fun a w g hr hc R hR =>
 ⟨h, rfl, hR b st a w g hk hr hc (FrL.refl _ _ _)⟩
theorem OL.kp (n : Nat) (H : List ar) (L : List Nat) (ll : List (Nat × SV)) (hst : aV n L st = some (ll, H)) (h : OL P l C ops d m b (sp n ll H) K) : OL P l C ops d m b st K :=
 fun a w g hr hc => h a w g (hr.bk (ay hst)) hc
theorem OL.step {i0 : Nat} {is : List Nat} (h : Region.ready .any ops (dq ops.size m) = i0 :: is)
  (hs : yJ (i0 :: is) (fun i => cr P l C ops i b st (fun b' s => OL P l C ops d (m ||| 2 ^ i) b' s K))) : OL P l C ops (d + 1) m b st K := by
 intro a w g hr hc R hR
 refine wpAnyIn_all h (List.cons_ne_nil _ _) fun i hi => ?_
 refine mK hs i hi a w g hr hc _ R fun b1 st1 a1 w1 g1 q1 r1 c1 f1 => ?_
 rw [ja]
 exact q1 a1 w1 g1 r1 c1 R fun b2 st2 a2 w2 g2 q2 r2 c2 f2 => hR b2 st2 a2 w2 g2 q2 r2 c2 (f1.trans f2)
def k5 (ops : Array Oper) (i : Nat) : Array Oper := match ops[i]? with
 | some o => #[{ o with guard := none }]
 | none => #[]
theorem cr.of (hC : ∀ b, CFr (C b)) {o : Oper} (ho : dT ops i st = some o) (hd : dG (k5 ops i).toList = true) (h : OWk P false (k5 ops i) 0 st (K b)) : cr P l C ops i b st K := by
 obtain ⟨h1, h2⟩ := aW ho
 intro a w g hr hc N R hN
 have key := ry (n := 0) (Qc := NX N) hd h hr fun st' a' w' g' q r f => ⟨rfl, hN b st' a' w' g' q r (hC b _ _ _ _ hc f) (FrL.of f)⟩
 rw [List.drop_zero] at key
 unfold wpOpIn
 rw [h1]
 simp only [aN hr h2, if_true]
 simp only [k5, h1, List.toList_toArray] at key
 unfold wpListIn at key
 have hw : Region.wanted { o with guard := none } (yielded #[{ o with guard := none }] a.tmps) = true := by unfold Region.wanted; rfl
 rw [if_pos hw] at key
 refine ⟨fun f _ => trivial, ?_⟩
 have k2 := key.2
 have e : (({ o with guard := none } : Oper).semAt Fence.wide.round a.eval) = o.semAt Fence.wide.round a.eval := rfl
 rw [e] at k2
 generalize (o.semAt Fence.wide.round a.eval).run P w = r at *
 have nil : ∀ {a' w'}, wpListIn Fence.wide 0 P #[{ o with guard := none }] (NX N) [] a' w' → N a' w' := fun h => by
  unfold wpListIn at h; exact h.2
 cases r with
 | ok x w' =>
  cases x <;> simp only [Oper.uponIn] at k2 ⊢ <;> first
   | exact nil k2
   | exact k2.elim
   | exact ⟨k2.1, CallsIn.mono k2.2 (fun e w'' he => by cases e <;> first | exact nil he | cases he.1 | exact absurd he NX.out)⟩
   | exact ⟨k2.1, RowsIn.mono k2.2 (fun _ _ he => nil he)⟩
   | exact ⟨k2.1, RoundIn.mono k2.2 (fun e w'' he => by cases e <;> first | exact nil he | cases he.1 | exact absurd he NX.out)⟩
 | halt x w' => cases x <;> simp only [Oper.uponIn] at k2 ⊢ <;> first | exact k2.elim | cases k2.1 | exact k2
theorem cr.skip {o : Oper} (ho : ops[i]? = some o) (hw : cV ops st o = some false) (hk : K b (st.put o.dst (.tup []))) : cr P l C ops i b st K := by
 intro a w g hr hc N R hN
 unfold wpOpIn
 rw [ho]
 simp only [aN hr hw, Bool.false_eq_true, if_false]
 exact ⟨fun f _ => trivial, hN b _ _ w g hk (hr.b9 o.dst (v := undef) ⟨#[], rfl, rfl, by simp⟩) hc (FrL.refl _ _ _)⟩
end
end Go.Sh
namespace Go.Sh
section
variable {P : Program} {l : Nat} {C : Bool → Gh → World → Prop} {b : Bool} {st : St} {Q : Bool → Exit → St → Prop} {ops : Array Oper} {d m i : Nat} {K : Bool → St → Prop}
def iw (P : Program) (ops : Array Oper) (i : Nat) (st : St) : Bool := match ops[i]? with
 | some o => gO P o || (match o.op with
  | .nilCheck x => (match bK st x with
   | some (.ptr _ _) => true
   | some (.aR _) => true
   | _ => false)
  | _ => false)
 | none => false
theorem lj {o : Oper} {a : Act} {w w1 : World} {g : Gh} {v : Value} (ho : ops[i]? = some o) (h : iw P ops i st = true) (hr : Rel st a w g) (h1 : (execOp a.eval o).run P w = .ok (.value v) w1) :
  (∀ w2, (execOp a.eval o).run P w2 = .ok (.value v) w2) ∧ (∀ w, o.about P w a.eval = none) := by
 unfold iw at h
 rw [ho] at h
 simp only [Bool.or_eq_true] at h
 rcases h with h | h
 ·refine ⟨(nX h _ w _ w1 h1).2, fun w => ?_⟩
  unfold Oper.about
  unfold gO at h
  split at h <;> rename_i hop <;> first | (rw [hop]) | cases h
 ·split at h
  ·rename_i x hop
   refine ⟨fun w2 => ?_, fun w => by unfold Oper.about; rw [hop]⟩
   have key : ∃ q, a.eval x = .pointer (some q) := by
    split at h
    ·rename_i hx
     have := bw hr hx
     generalize a.eval x = u at this
     cases this; exact ⟨_, rfl⟩
    ·rename_i hx
     have := bw hr hx
     generalize a.eval x = u at this
     cases this; exact ⟨_, rfl⟩
    ·cases h
   obtain ⟨q, hq⟩ := key
   have e : ∀ w, (execOp a.eval o).run P w = .ok (.value (.pointer (some q))) w := fun w => by
    unfold execOp
    rw [hop]
    simp only [hq, Sem.run_pure]
   rw [e] at h1
   cases h1
   exact e w2
  ·cases h
theorem NX.no {R : Act → World → Prop} {c : List PanicEntry} {a : Act} {w : World} {X : Prop} (h : NX R (.panic c) a w) : X := by cases h.1
theorem OL.first {dd : Option Tmp} {s : SV} (i : Nat) (hc : (Region.noSelect ops && Region.free .any ops (dq ops.size m) i && (Region.ready .any ops (dq ops.size m)).contains i && iw P ops i st) = true) (hb : BAt P ops i st dd s)
  (h : OL P l C ops d (m ||| 2 ^ i) b (st.put dd s) K) : OL P l C ops (d + 1) m b st K := by
 simp only [Bool.and_eq_true] at hc
 obtain ⟨⟨⟨c1, c2⟩, c3⟩, c4⟩ := hc
 obtain ⟨o, h1, h2, h3, h4, rfl⟩ := hb
 intro a w g hr hC R hR
 obtain ⟨v, e1, e2⟩ := h3 a w g hr
 obtain ⟨k1, k2⟩ := lj h1 c4 hr (e2 w (Up.refl w))
 refine wpAnyIn_take (i := i) (v := v) rfl h1 c1 c2 c3 (fun c a w hh => NX.no hh) ⟨.inl ⟨aN hr h2, k1⟩, k2⟩ ?_
 rw [ja]
 exact h _ w g (hr.pf e1 h4) hC R hR
def rL (o : Oper) : Bool := match o.op with
 | .call _ => false
 | _ => true
theorem OL.AA {o : Oper} (i : Nat) (ho : ops[i]? = some o) (hw : cV ops st o = some false) (hc : (Region.noSelect ops && Region.free .any ops (dq ops.size m) i && (Region.ready .any ops (dq ops.size m)).contains i && rL o) = true)
  (h : OL P l C ops d (m ||| 2 ^ i) b (st.put o.dst (.tup [])) K) : OL P l C ops (d + 1) m b st K := by
 simp only [Bool.and_eq_true] at hc
 obtain ⟨⟨⟨c1, c2⟩, c3⟩, c4⟩ := hc
 intro a w g hr hC R hR
 refine wpAnyIn_take (i := i) (v := undef) rfl ho c1 c2 c3 (fun c a w hh => NX.no hh) ⟨.inr ⟨aN hr hw, rfl⟩, fun w => ?_⟩ ?_
 ·unfold Oper.about
  unfold rL at c4
  split at c4
  ·cases c4
  ·rename_i hne
   split
   ·rename_i c hop; exact absurd hop (hne c)
   ·rfl
 ·rw [ja]
  exact h _ w g (hr.b9 o.dst (v := undef) ⟨#[], rfl, rfl, by simp⟩) hC R hR
theorem SWL.l8 {id : Nat} {ll : List Oper} (hm : P.follows .mixedOrders = true) (hC : ∀ b, CFr (C b)) (h : OL P l C ll.toArray ll.length 0 b st (fun b' s => Q b' .normal s)) : SWL P l C b (.region id ll.toArray true) st Q := by
 intro a w g hr hc
 refine (wpIn_wide (n := 0)).1 ?_
 refine Code.wpIn_mono (Q := NX fun a' w' => ∃ b' st' g', Q b' .normal st' ∧ Rel st' a' w' g' ∧ C b' g' w' ∧ FrL l g w g' w') (fun e a' w' hh => by obtain ⟨rfl, hh⟩ := hh; exact hh) ?_
 refine wpIn_region_any hm ?_
 have := h a w.drew g hr.drew (hC b _ _ _ _ hc (Fr.drew (pu := false))) (fun a' w' => ∃ b' st' g', Q b' .normal st' ∧ Rel st' a' w' g' ∧ C b' g' w' ∧ FrL l g w g' w')
  (fun b' st' a' w' g' q r c f => ⟨b', st', g', q, r, c, (FrL.of (Fr.drew (pu := false))).trans f⟩)
 rw [kU] at this
 simpa using this
theorem cr.call {R : Loop} {jc : Code} {ds Dn : List (Nat × D)} {f : FuncId} {args : List SV} {dd : Option Tmp} {b' : Bool} {H' : List ar} (n : Nat) (L : List Nat) (ll : List (Nat × SV))
  (hp : SBL P l (CL l R jc ds Dn) f args st.H H' b' (fun v => v = .bool b')) (h : dE P ops i st [] = some (dd, f, args, [], [])) (hn : st.tmps.all eh = true)
  (hst : aV n L ⟨(st.put dd (vB b')).tmps, H'⟩ = some (ll, H')) (hk : K b' (sp n ll H')) : cr P l (CL l R jc ds Dn) ops i true st K := by
 unfold dE at h
 split at h
 ·rename_i o ho
  split at h
  ·rename_i c hop
   split at h
   ·rename_i cs hcs
    simp only [Option.some.injEq, Prod.mk.injEq] at h
    obtain ⟨rfl, rfl, rfl, e1, e2⟩ := h
    obtain ⟨h1, h2⟩ := aW ho
    obtain ⟨f0, a0, l0, g0⟩ := cs
    cases e1; cases e2
    intro a w g hr hc N R' hN
    obtain ⟨vs, k1, k2, k3⟩ := rj hr hop hcs
    unfold wpOpIn
    rw [h1]
    simp only [aN hr h2, if_true]
    refine ⟨fun f _ => trivial, ?_⟩
    show Oper.uponIn _ _ _ _ _ _ _ ((execOp a.eval o).run P w)
    rw [k1]
    simp only [Oper.uponIn]
    refine ⟨(fun h => nomatch h), callsIn_wide.2 ((hp.call hc k2 k3).mono fun e w' hh => ?_)⟩
    obtain ⟨v, rfl, rfl, g', q1, q2, q3, q4⟩ := hh
    exact hN b' _ _ w' g' hk ((Rel.yw hr hn q1 q3 q4 (.inr ⟨b', rfl, rfl⟩)).bk (ay hst)) q2 q3
   ·cases h
  ·cases h
 ·cases h
theorem cr.yield {CC : Bool → Gh → World → Prop} {dd : Option Tmp} {y : D} {b' : Bool} {H' : List ar} (n : Nat) (L : List Nat) (ll : List (Nat × SV)) (h : yAt P ops i st = some (dd, l, y))
  (hy : YBL P l CC [.d y] st.H H' b') (hn : st.tmps.all eh = true)
  (hst : aV n L ⟨(st.put dd (vB b')).tmps, H'⟩ = some (ll, H')) (hk : K b' (sp n ll H')) : cr P l CC ops i true st K := by
 unfold yAt at h
 split at h
 ·rename_i o ho
  split at h
  ·rename_i c hop
   split at h
   ·rename_i fo x hcal hargs
    split at h
    ·rename_i l' y' hfo hx
     simp only [Option.some.injEq, Prod.mk.injEq] at h
     obtain ⟨rfl, rfl, rfl⟩ := h
     obtain ⟨h1, h2⟩ := aW ho
     intro a w g hr hc N R' hN
     have hrf := bw hr hfo
     have hrx := bw hr hx
     have hev : a.eval fo = .func (.yield l') #[] #[] := by
      generalize a.eval fo = v at hrf
      cases hrf with
      | fn hl1 hl2 us1 us2 hc1 hr1 hc2 hr2 =>
       rename_i v1 v2
       have e1 : v1 = #[] := Array.eq_empty_of_size_eq_zero (by simpa using hl1)
       have e2 : v2 = #[] := Array.eq_empty_of_size_eq_zero (by simpa using hl2)
       rw [e1, e2]
     have hca : c.args = #[x] := by
      apply Array.ext'
      simpa using hargs
     obtain ⟨fn, tmps, assign, body, e1, e2⟩ := hy w g #[a.eval x] hc ⟨rfl, fun j s hj => by
      cases j with
      | zero => simp only [List.getElem?_cons_zero, Option.some.injEq] at hj; subst hj; exact ⟨_, rfl, hrx⟩
      | succ j => simp at hj⟩ hr.hp
     have hex : (o.semAt Fence.wide.round a.eval).run P w = .ok (.round l' fn tmps assign body) w := by
      show (execOp a.eval o).run P w = _
      unfold execOp
      rw [hop]
      simp only [resolve, hcal, hca, Deferred.ofValue, hev, Sem.run_bind, Sem.run_pure, Result.andThen_ok, invoke, List.map_toArray, List.map_cons, List.map_nil]
      exact e1
     unfold wpOpIn
     rw [h1]
     simp only [aN hr h2, if_true]
     refine ⟨fun f _ => trivial, ?_⟩
     rw [hex, Oper.uponIn_round]
     refine ⟨(fun h => nomatch h), (e2 _).mono fun e w' hh => ?_⟩
     obtain ⟨rfl, g', q1, q2, q3, q4⟩ := hh
     exact hN b' _ _ w' g' hk ((Rel.yw hr hn q1 q3 q4 (.inr ⟨b', rfl, rfl⟩)).bk (ay hst)) q2 q3
    ·cases h
   ·cases h
  ·cases h
 ·cases h
def wL (P : Program) (ops : Array Oper) (k : Nat) (st : St) : Option (Option Tmp × Nat) :=
 match dT ops k st with
 | some o => match o.op with
  | .load T x => match bK st x with
   | some (.ptr i 0) => if (!(P.underlying T).isNone && !cy P T) = true then some (o.dst, i) else none
   | _ => none
  | _ => none
 | none => none
theorem cr.down {R : Loop} {jc : Code} {ds Dn : List (Nat × D)} {dd : Option Tmp} {j : Nat} {y : D} (h : wL P ops i st = some (dd, j)) (hd : (j, y) ∈ Dn) (hk : K b (st.put dd (.d y))) : cr P l (CL l R jc ds Dn) ops i b st K := by
 unfold wL at h
 split at h
 ·rename_i o ho
  split at h
  ·rename_i T x hop
   split at h
   ·rename_i i' hx
    split at h
    ·rename_i hT
     cases h
     simp only [Bool.and_eq_true, Bool.not_eq_true'] at hT
     obtain ⟨h1, h2⟩ := aW ho
     intro a w g hr hc N R' hN
     obtain ⟨k, c, T0, fz, v, e1, e2, e3, e4, e5, e6, e7⟩ := hc.2.2.2 _ _ hd
     have hrx := bw hr hx
     have hev : a.eval x = .pointer (some ⟨k, 0, none⟩) := by
      generalize a.eval x = u at hrx
      cases hrx with
      | ptr hh => rw [e1] at hh; cases hh; rfl
     unfold wpOpIn
     rw [h1]
     simp only [aN hr h2, if_true]
     refine ⟨fun f _ => trivial, ?_⟩
     have hex : (execOp a.eval o).run P w = .ok (.value v) w := by
      unfold execOp
      rw [hop]
      simp only [Instr.loadAt, hev, Instr.sureAddr, Sem.run_bind, Sem.run_pure, Result.andThen_ok, cd hT.1 hT.2 e4 e5]
     show Oper.uponIn _ _ _ _ _ _ _ ((execOp a.eval o).run P w)
     rw [hex]
     simp only [Oper.uponIn]
     exact hN b _ _ w g hk (hr.b9 o.dst e7) hc (FrL.refl _ _ _)
    ·cases h
   ·cases h
  ·cases h
 ·cases h
theorem SBL.Aq {f : FuncId} {fn : Func} {c : Code} {args : List SV} {H H' : List ar} {b' : Bool} {t : Nat} (hf : P.funcs[f]? = some fn) (hb : fn.body = some c) (hr : fn.results = #[.tmp t])
  (h : SWL P l C true c (fJ fn.ntmps args H) (fun b1 e s => b1 = b' ∧ (e = .normal ∨ e = .ret) ∧ s.H = H' ∧ s.tmps[t]? = some (vB b'))) : SBL P l C f args H H' b' (fun v => v = .bool b') := by
 intro w g vs hC ha hH
 refine calls_of_wp hf hb (Code.wp_mono (fun e a' w' hh => ?_) (h _ _ g (Rel.init ha hH fn.ntmps) hC))
 obtain ⟨b1, st', g', ⟨rfl, he, hH', hv⟩, r, c1, f1⟩ := hh
 have hrd : Rd g' w' (valOf a' t) (.bool b1) := r.tmp t _ hv
 have hval : valOf a' t = .bool b1 := by generalize valOf a' t = u at hrd; cases hrd; rfl
 have hres : (results fn a'.tmps).run P w' = .ok (.bool b1) w' := by
  have := gy (P := P) (fn := fn) (tm := a'.tmps) (w := w') (vs := [.bool b1]) (by simp [hr]) (fun j rv hj => by
   rw [hr] at hj
   cases j with
   | zero =>
    simp only [List.getElem?_toArray, List.getElem?_cons_zero, Option.some.injEq] at hj
    subst hj
    exact ⟨_, rfl, by simp only [fC]; exact congrArg (fun v => Result.ok v w') hval⟩
   | succ j => simp at hj)
  simpa using this
 rcases he with rfl | rfl
 ·exact ⟨r.cH, _, hres, _, g', rfl, rfl, by rw [← hH']; exact r.hp, c1, f1⟩
 ·exact ⟨r.cH, _, hres, _, g', rfl, rfl, by rw [← hH']; exact r.hp, c1, f1⟩
theorem SBL.ze {f : FuncId} {fn : Func} {c : Code} {args : List SV} {H H' : List ar} {b' : Bool} (hf : P.funcs[f]? = some fn) (hb : fn.body = some c) (hr : fn.results = #[])
  (h : SWL P l C true c (fJ fn.ntmps args H) (fun b1 e s => b1 = b' ∧ (e = .normal ∨ e = .ret) ∧ s.H = H')) : SBL P l C f args H H' b' (fun v => True) := by
 intro w g vs hC ha hH
 refine calls_of_wp hf hb (Code.wp_mono (fun e a' w' hh => ?_) (h _ _ g (Rel.init ha hH fn.ntmps) hC))
 obtain ⟨b1, st', g', ⟨rfl, he, hH'⟩, r, c1, f1⟩ := hh
 have hres : (results fn a'.tmps).run P w' = .ok (.tuple #[]) w' := by
  have := gy (P := P) (fn := fn) (tm := a'.tmps) (w := w') (vs := []) (by simp [hr]) (fun j rv hj => by simp [hr] at hj)
  simpa using this
 rcases he with rfl | rfl
 ·exact ⟨r.cH, _, hres, _, g', rfl, trivial, by rw [← hH']; exact r.hp, c1, f1⟩
 ·exact ⟨r.cH, _, hres, _, g', rfl, trivial, by rw [← hH']; exact r.hp, c1, f1⟩
end
end Go.Sh
namespace Go.Sh
section
variable {P : Program} {l : Nat} {C : Bool → Gh → World → Prop} {b : Bool} {st : St} {Q : Bool → Exit → St → Prop} {ops : Array Oper} {d m i k : Nat} {K : Bool → St → Prop}
def OLt (P : Program) (l : Nat) (C : Bool → Gh → World → Prop) (ops : Array Oper) (k : Nat) (b : Bool) (st : St) (K : Bool → St → Prop) : Prop :=
 ∀ a w g, Rel st a w g → C b g w → ∀ R : Act → World → Prop, (∀ b' st' a' w' g', K b' st' → Rel st' a' w' g' → C b' g' w' → FrL l g w g' w' → R a' w') →
  wpListIn Fence.wide 0 P ops (NX R) (ops.toList.drop k) a w
theorem OLt.fin (h : decide (ops.size ≤ k) = true) (hk : K b st) : OLt P l C ops k b st K := fun a w g hr hc R hR => by
 rw [List.drop_of_length_le (by simpa using of_decide_eq_true h)]
 exact wpListIn_nil ⟨rfl, hR b st a w g hk hr hc (FrL.refl _ _ _)⟩
theorem OLt.step (hk : (ops[k]?).isSome = true) (h : cr P l C ops k b st (fun b' s => OLt P l C ops (k + 1) b' s K)) : OLt P l C ops k b st K := by
 obtain ⟨o, ho⟩ := Option.isSome_iff_exists.1 hk
 intro a w g hr hc R hR
 rw [drop_cons ho]
 have h1 := h a w g hr hc (wpListIn Fence.wide 0 P ops (NX R) (ops.toList.drop (k + 1))) R fun b1 st1 a1 w1 g1 q1 r1 c1 f1 =>
  q1 a1 w1 g1 r1 c1 R fun b2 st2 a2 w2 g2 q2 r2 c2 f2 => hR b2 st2 a2 w2 g2 q2 r2 c2 (f1.trans f2)
 unfold wpOpIn at h1
 rw [ho] at h1
 unfold wpListIn
 split
 ·rename_i hw
  simp only [hw, if_true] at h1
  exact h1
 ·rename_i hw
  simp only [hw, Bool.false_eq_true, if_false] at h1
  exact h1
theorem OLt.kp (n : Nat) (H : List ar) (L : List Nat) (ll : List (Nat × SV)) (hst : aV n L st = some (ll, H)) (h : OLt P l C ops k b (sp n ll H) K) : OLt P l C ops k b st K :=
 fun a w g hr hc => h a w g (hr.bk (ay hst)) hc
theorem SWL.fD {id : Nat} {ll : List Oper} (h : OLt P l C ll.toArray 0 b st (fun b' s => Q b' .normal s)) : SWL P l C b (.region id ll.toArray false) st Q := by
 intro a w g hr hc
 refine (wpIn_wide (n := 0)).1 ?_
 refine Code.wpIn_mono (Q := NX fun a' w' => ∃ b' st' g', Q b' .normal st' ∧ Rel st' a' w' g' ∧ C b' g' w' ∧ FrL l g w g' w') (fun e a' w' hh => by obtain ⟨rfl, hh⟩ := hh; exact hh) ?_
 refine wpIn_region_list ?_
 have := h a w g hr hc (fun a' w' => ∃ b' st' g', Q b' .normal st' ∧ Rel st' a' w' g' ∧ C b' g' w' ∧ FrL l g w g' w')
  (fun b' st' a' w' g' q r c f => ⟨b', st', g', q, r, c, f⟩)
 rw [List.drop_zero] at this
 exact this
theorem OWk.BE {Q : St → Prop} {n : Nat} {H : Hp} {y : Sh.D} {i off : Nat} {H0 : Hp} (L : List Nat) (ll : List (Nat × SV)) (hx : tg H0 i off y.cells = some H) (h : vn P ops k st = some (i, off, y, H0)) (hst : aV n L (st.hp H) = some (ll, H))
  (hn : OWk P false ops (k + 1) (sp n ll H) Q) : OWk P false ops k st Q := by
 unfold vn at h
 split at h
 ·rename_i o ho
  split at h
  ·rename_i T x y hop
   split at h
   ·rename_i i' off' d h1 h2
    split at h
    ·rename_i hc
     simp only [Option.some.injEq, Prod.mk.injEq] at h
     obtain ⟨rfl, rfl, rfl, rfl⟩ := h
     obtain ⟨g1, g2⟩ := aW ho
     exact OWk.heap n H L ll g1 g2 (OpS.um hop hc.2.2 h1 h2 hc.1 hc.2.1 hx) hst hn
    ·cases h
   ·cases h
  ·cases h
 ·cases h
theorem Rel.lL {a : Act} {w : World} {g : Gh} {i : Nat} {y : D} (hr : Rel st a w g) (hi : st.H[i]? = some (.cells [.d y])) (hn : st.tmps.all eh = true) (hl : g.ow l = .out) :
  ∃ g', Rel ⟨st.tmps, st.H.set i .hole⟩ a w g' ∧ Fr false g w g' w ∧ yI l i y g' w := by
 let rn : Own → Own := fun o => match o with
  | .obj j => if j = i then .out else .obj j
  | o => o
 have hk : ∀ o, (∀ j, o = .obj j → j ≠ i) → az o g w (g.ren rn) w := fun o h1 => az.ren (by
  cases o with
  | obj j => simp [rn, h1 j rfl]
  | _ => rfl)
 have hf : az .free g w (g.ren rn) w := hk _ (by simp)
 have hout : az .out g w (g.ren rn) w := hk _ (by simp)
 obtain ⟨k, c, T, f1, f2, f3, f4, f5⟩ := hr.hp.2 i _ hi
 refine ⟨g.ren rn, ?_, ⟨Nat.le_refl _, hf, hout, fun _ _ h => h, nofun, nofun, nofun, ⟨rfl, rfl⟩⟩, ?_⟩
 ·refine Rel.step hr hr.len hr.cH (fun _ _ h => h) (fun t' s hs => ?_) ⟨by simp [Gh.ren, hr.hp.1], fun i' o' hi' => ?_⟩
  ·refine .inr (.inr ⟨hs, rfl, fun o' ho' => hk o' (fun j e2 => by subst e2; exact absurd ho' iT), fun s0 e0 => ⟨rfl, fun x hx hb => ⟨x, hx, rfl⟩⟩⟩)
  ·simp only at hi'
   by_cases e : i = i'
   ·subst e
    rw [List.getElem?_set_self (aD hi)] at hi'
    cases hi'
    trivial
   ·rw [List.getElem?_set_ne e] at hi'
    exact (hr.hp.2 i' o' hi').jD hf (hk _ (fun j e2 => by cases e2; exact Ne.symm e)) (fun j => hk _ (by simp)) (fun _ _ h => h)
 ·obtain ⟨u, u1, u2, u3⟩ := f5 0 _ rfl
  refine ⟨k, c, T, (0, 0), u, f1, (fun e => by subst e; rw [hl] at f2; cases f2), by simp [Gh.ren, f2, rn], f3, u1, u3, ?_⟩
  exact (show Rd g w u y from u2).aG hf (fun _ _ h => h)
theorem SWL.lL {R : Loop} {jc : Code} {ds Dn : List (Nat × D)} {c : Code} (i : Nat) (y : D) (n : Nat) (H : List ar) (L : List Nat) (ll : List (Nat × SV)) (hi : st.H[i]? = some (.cells [.d y])) (hn : st.tmps.all eh = true)
  (hst : aV n L ⟨st.tmps, st.H.set i .hole⟩ = some (ll, H)) (h : SWL P l (CL l R jc ds ((i, y) :: Dn)) b c (sp n ll H) Q) : SWL P l (CL l R jc ds Dn) b c st Q := by
 intro a w g hr hc
 obtain ⟨g1, r1, f1, d1⟩ := hr.lL hi hn hc.2.1
 have hc1 := CL.fr _ _ _ _ hc f1
 have hc2 : CL l R jc ds ((i, y) :: Dn) b g1 w := ⟨hc1.1, hc1.2.1, hc1.2.2.1, fun j d hd => by
  rcases List.mem_cons.1 hd with e | hd
  ·cases e; exact d1
  ·exact hc1.2.2.2 j d hd⟩
 refine Code.wp_mono (fun e a' w' hh => ?_) (h a w g1 (r1.bk (ay hst)) hc2)
 obtain ⟨b', st', g', q, r, c', f⟩ := hh
 exact ⟨b', st', g', q, r, c'.less (fun p hp => List.mem_cons_of_mem _ hp), (FrL.of f1).trans f⟩
theorem kJ.Bh {R : Loop} {jc : Code} {ds : List (Nat × D)} {g : Gh} {w : World} (h : kJ l R ds g w) : CL l R jc ds [] true g w := ⟨h.1, h.2.1, h.2.2, fun i d hd => by cases hd⟩
theorem CL.xb {R : Loop} {jc : Code} {ds Dn : List (Nat × D)} {g : Gh} {w : World} (h : CL l R jc ds Dn true g w) : kJ l R ds g w := ⟨h.1, h.2.1, h.2.2.1⟩
theorem YBL.Bv {R : Loop} {jc : Code} {ds : List (Nat × D)} {args : List SV} {H H' : List ar} (h : YB P (kJ l R ds) l args H H') : YBL P l (CL l R jc ds []) args H H' true := fun w g vs hC hA hH => by
 obtain ⟨fn, tmps, assign, body, h1, h2⟩ := h w g vs hC.xb hA hH
 refine ⟨fn, tmps, assign, body, h1, fun n => (h2 n).mono fun e w' hh => ?_⟩
 obtain ⟨he, g', k1, k2, k3⟩ := hh
 exact ⟨he, g', k1, (kJ.fr _ _ _ _ hC.xb k2).Bh, FrL.of k2, fun o ho _ => k3 o ho⟩
theorem SBC.As {R : Loop} {jc : Code} {ds : List (Nat × D)} {f : FuncId} {args : List SV} {H H' : List ar} {rv : Value → Prop} (h : SBL P l (CL l R jc ds []) f args H H' true rv) : SBC P (kJ l R ds) f args H H' := fun w g vs hC hA hH => by
 refine (h w g vs hC.Bh hA hH).mono fun e w' hh => ?_
 obtain ⟨v, g', rfl, _, k1, k2, k3⟩ := hh
 refine ⟨v, g', rfl, k1, k3.size, k3.free, fun k o h1 h2 => ?_, k3.rho, nofun, nofun, nofun, k3.os⟩
 by_cases hk : k = l
 ·subst hk
  have := hC.1
  rw [h2] at this
  cases this
  exact ⟨k2.2.1, k2.1⟩
 ·exact k3.out k o hk h1 h2
theorem dF {N : Bool → St → Prop} {Q : Bool → Exit → St → Prop} {b : Bool} {s : St} (h : N b s) : vk N Q b .normal s := h
theorem yk {id : Nat} {Q : Bool → Exit → St → Prop} {b : Bool} {s : St} (h : Q b .normal s) : sh id Q b .normal s := h
theorem yj {id : Nat} {Q : Bool → Exit → St → Prop} {b : Bool} {s : St} (h : Q b .normal s) : sh id Q b (.exit id) s := by
 show (if id = id then _ else _)
 rw [if_pos rfl]
 exact h
def uo (P : Program) (ops : Array Oper) (m : Nat) (st : St) (i : Nat) : Option St := match ops[i]? with
 | none => none
 | some o => match cV ops st o with
  | some true => match bop P st o with
   | some s => if fP o.dst s && (Region.ready .any ops (dq ops.size m) == [i] || (Region.noSelect ops && Region.free .any ops (dq ops.size m) i && (Region.ready .any ops (dq ops.size m)).contains i && iw P ops i st)) then some (st.put o.dst s) else none
   | none => none
  | some false => if Region.ready .any ops (dq ops.size m) == [i] || (Region.noSelect ops && Region.free .any ops (dq ops.size m) i && (Region.ready .any ops (dq ops.size m)).contains i && rL o) then some (st.put o.dst (.tup [])) else none
  | none => none
theorem cr.bop {o : Oper} {s : SV} (h1 : ops[i]? = some o) (h2 : cV ops st o = some true) (h3 : Sh.bop P st o = some s) (h4 : fP o.dst s = true) (hk : K b (st.put o.dst s)) : cr P l C ops i b st K := by
 intro a w g hr hc N R hN
 obtain ⟨v, e1, e2⟩ := rk hr h3
 unfold wpOpIn
 rw [h1]
 simp only [aN hr h2, if_true]
 refine ⟨fun f _ => trivial, ?_⟩
 show Oper.uponIn _ _ _ _ _ _ _ ((execOp a.eval o).run P w)
 rw [e2 w (Up.refl w)]
 simp only [Oper.uponIn]
 exact hN b _ _ w g hk (hr.pf e1 h4) hc (FrL.refl _ _ _)
theorem sE {st' : St} (h : uo P ops m st i = some st') (hn : OL P l C ops d (m ||| 2 ^ i) b st' K) : OL P l C ops (d + 1) m b st K := by
 unfold uo at h
 split at h
 ·cases h
 ·rename_i o ho
  split at h
  ·rename_i hw
   split at h
   ·rename_i s hs
    split at h
    ·rename_i hc
     cases h
     simp only [Bool.and_eq_true, Bool.or_eq_true, beq_iff_eq] at hc
     obtain ⟨c1, c2⟩ := hc
     rcases c2 with c2 | c2
     ·exact OL.step c2 ⟨cr.bop ho hw hs c1 hn, trivial⟩
     ·exact OL.first i (by simp only [Bool.and_eq_true]; exact c2) ⟨o, ho, hw, bQ.fH hs, c1, rfl⟩ hn
    ·cases h
   ·cases h
  ·rename_i hw
   split at h
   ·rename_i hc
    cases h
    simp only [Bool.or_eq_true, beq_iff_eq] at hc
    rcases hc with c2 | c2
    ·exact OL.step c2 ⟨cr.skip ho hw hn, trivial⟩
    ·exact OL.AA i ho hw c2 hn
   ·cases h
  ·cases h
def sK (P : Program) (ops : Array Oper) : List Nat → Nat → St → Option (Nat × St)
 | [], m, st => some (m, st)
 | i :: is, m, st => match uo P ops m st i with
  | some st' => sK P ops is (m ||| 2 ^ i) st'
  | none => none
theorem o7 : ∀ {is : List Nat} {m m' : Nat} {st st' : St}, sK P ops is m st = some (m', st') → OL P l C ops d m' b st' K → OL P l C ops (is.length + d) m b st K
 | [], m, m', st, st', h, hn => by cases h; simpa using hn
 | i :: is, m, m', st, st', h, hn => by
  simp only [sK] at h
  split at h
  ·rename_i st1 h1
   have := o7 h hn
   rw [show (i :: is).length + d = (is.length + d) + 1 by simp; omega]
   exact sE h1 this
  ·cases h
variable {n : Nat} {H : Hp} {l0 : List (Nat × SV)}
def zW (is : List Nat) (m : Nat) : Nat := is.foldl (fun m i => m ||| 2 ^ i) m
theorem OL.G {d' : Nat} (is : List Nat) (ll : List (Nat × SV)) (hn : OL P l C ops d' (zW is m) b (sp n ll H) K) (hd : d = is.length + d' := by rfl)
  (h : (sK P ops is m (sp n l0 H)).bind (fun q => (aV n (ll.map (·.1)) q.2).map (fun r => (q.1, r))) = some (zW is m, (ll, H)) := by kernel_rfl) : OL P l C ops d m b (sp n l0 H) K := by
 subst hd
 cases hq : sK P ops is m (sp n l0 H) with
 | none => rw [hq] at h; cases h
 | some q =>
  rw [hq] at h
  simp only [Option.bind_some, Option.map_eq_some_iff] at h
  obtain ⟨r, h1, h2⟩ := h
  simp only [Prod.mk.injEq] at h2
  obtain ⟨e1, rfl⟩ := h2
  rw [← e1] at hn
  exact o7 hq (OL.kp n H _ ll h1 hn)
theorem cr.W {N : Bool → St → Prop} (h : OWk P false (k5 ops i) 0 (sp n l0 H) (N b)) (hC : ∀ b, CFr (C b)) (ho : (dT ops i (sp n l0 H)).isSome = true := by kernel_rfl) (hd : dG (k5 ops i).toList = true := by kernel_rfl) : cr P l C ops i b (sp n l0 H) N := by
 obtain ⟨o, ho⟩ := Option.isSome_iff_exists.1 ho
 exact cr.of hC ho hd h
theorem OL.F (i : Nat) (hC : ∀ b, CFr (C b)) (h : OWk P false (k5 ops i) 0 (sp n l0 H) (fun s => OL P l C ops d (m ||| 2 ^ i) b s K)) (hr : Region.ready .any ops (dq ops.size m) = [i] := by kernel_rfl)
  (ho : (dT ops i (sp n l0 H)).isSome = true := by kernel_rfl) (hd : dG (k5 ops i).toList = true := by kernel_rfl) : OL P l C ops (d + 1) m b (sp n l0 H) K :=
 OL.step hr ⟨cr.W h hC ho hd, trivial⟩
theorem OL.B {dd : Option Tmp} {s : SV} (i : Nat) (ll : List (Nat × SV)) (hb : BAt P ops i (sp n l0 H) dd s) (h : OL P l C ops d (m ||| 2 ^ i) b (sp n ll H) K) (hst : aV n (ll.map (·.1)) ((sp n l0 H).put dd s) = some (ll, H) := by kernel_rfl)
  (hc : (Region.noSelect ops && Region.free .any ops (dq ops.size m) i && (Region.ready .any ops (dq ops.size m)).contains i && iw P ops i (sp n l0 H)) = true := by kernel_rfl) : OL P l C ops (d + 1) m b (sp n l0 H) K :=
 OL.first i hc hb (OL.kp n H _ ll hst h)
theorem OL.cut {d0 m0 : Nat} {b0 : Bool} {st0 : St} (Hyp : Hp → Prop) (d m n : Nat) (ll : List (Nat × SV)) (h2 : ∀ H2, Hyp H2 → OL P l C ops d m b (sp n ll H2) K) (h1 : (∀ H2, Hyp H2 → OL P l C ops d m b (sp n ll H2) K) → OL P l C ops d0 m0 b0 st0 K) : OL P l C ops d0 m0 b0 st0 K := h1 h2
theorem OL.hav {d0 m0 : Nat} {b0 : Bool} {st0 : St} (d m n : Nat) (ll : List (Nat × SV)) (h2 : OL P l C ops d m b (sp n ll H) K) (h1 : OL P l C ops d m b (sp n ll H) K → OL P l C ops d0 m0 b0 st0 K) : OL P l C ops d0 m0 b0 st0 K := h1 h2
theorem OL.at_ {m' : Nat} (h : OL P l C ops d m' b st K) (hm : m' = m := by kernel_rfl) : OL P l C ops d m b st K := hm ▸ h
end
end Go.Sh
namespace Go.Sh
section
variable {P : Program} {st : St} {Q : Exit → St → Prop}
theorem dJ.gH {c : Operand} {x y : Code} (hc : bK st c = some (.bool true)) (h : dJ P x st Q) : dJ P (.cond c x y) st Q :=
 fun a w g hr => wp_cond (bG hr hc rfl) (by simpa using h a w g hr)
theorem SC.oE {f : FuncId} {fn : Func} {c : Code} {args : List SV} {H H' : List ar} {r : SV} (hf : P.funcs[f]? = some fn) (hb : fn.body = some c)
  (h : dJ P c (fJ fn.ntmps args H) (aA P fn.results.toList H' r)) : SC P false f args H r H' := SB.sc (SB.oE hf hb h)
variable {r : Option Nat} {K : St → Prop} {ops : Array Oper}
theorem wb {n i : Nat} {X N : Act → World → Prop} {N' : Act → World → Prop} {a : Act} {w : World} (hd : dG ops.toList = true) (h : wpOp P ops (NX X) i N a w) (hN : ∀ a w, N a w → N' a w) : wpOpIn (Fw r) n P ops (NX X) i N' a w := by
 unfold wpOp at h
 unfold wpOpIn
 split at h
 ·rename_i ho; rw [ho]; exact hN _ _ h
 ·rename_i o ho
  rw [ho]
  simp only
  split at h
  ·rename_i hw
   rw [if_pos hw]
   rcases h with h | h
   ·refine ⟨fun f _ => vZ f, ?_⟩
    have hmem : o ∈ ops.toList := by
     rw [Array.mem_toList_iff]
     exact Array.mem_of_getElem? ho
    rw [tT, Oper.semAt_eq r a.eval o (gV hd o hmem)]
    exact qw (Oper.wp_mono (K' := N') (fun a' w' hh => hN a' w' hh) h)
   ·exact absurd h.2 NX.out
  ·rename_i hw
   rw [if_neg hw]
   exact ⟨fun f _ => vZ f, hN _ _ h⟩
theorem oN {n : Nat} {md : Region.Mode} {X : Act → World → Prop} (hd : dG ops.toList = true) : ∀ (d : Nat) (ls : Array Bool) (a : Act) (w : World), wpAny P md ops (NX X) d ls a w → wpAnyIn (Fw r) n P md ops (NX X) d ls a w
 | 0, _, _, _, h => h
 | d + 1, _, _, _, h => ⟨h.1, fun i hi => wb hd (h.2 i hi) (fun a w hh => oN hd d _ a w hh)⟩
theorem SWR.any {id : Nat} {l : List Oper} (hm : P.follows .mixedOrders = true) (hd : dG l = true)
  (h : ∀ a w g, Rel st a w g → wpAny P .any l.toArray (NX fun a' w' => ∃ st' g', K st' ∧ Rel st' a' w' g' ∧ Fr false g w g' w') l.toArray.size (Array.replicate l.toArray.size false) a w.drew) : SWR P r (.region id l.toArray true) st K := by
 intro n a w g hr
 refine Code.wpIn_mono (Q := NX fun a' w' => ∃ st' g', K st' ∧ Rel st' a' w' g' ∧ Fr false g w g' w') (fun e a' w' hh => hh) ?_
 exact wpIn_region_any hm (oN (by simpa using hd) _ _ _ _ (h a w g hr))
theorem SWR.y8 {id : Nat} {l : List Oper} (n : Nat) (H : List ar) (ll : List (Nat × SV)) (hm : P.follows .mixedOrders = true)
  (h : ∀ X : Nat → Nat → St → Prop, (X = fun d m s => OX P false l.toArray d m s (sp n ll H)) → X l.length 0 st) (hq : K (sp n ll H)) (hd : dG l = true := by kernel_rfl) : SWR P r (.region id l.toArray true) st K :=
 SWR.any hm hd fun a w g hr => by
  have := h _ rfl a w.drew g hr.drew (fun a' w' => ∃ st' g', K st' ∧ Rel st' a' w' g' ∧ Fr false g w g' w') (fun a' w' g' r f => ⟨_, g', hq, r, Fr.drew.trans f⟩)
  rw [kU] at this
  rw [show l.length = l.toArray.size by simp] at this
  exact this
end
end Go.Sh
namespace Go.Sh
structure GC {σ : Type} (pu : Bool) (C : σ → Gh → World → Prop) (R : σ → Gh → World → σ → Gh → World → Prop) : Prop where
 fr : ∀ {s g w g' w'}, C s g w → Fr pu g w g' w' → C s g' w' ∧ R s g w s g' w'
 refl : ∀ {s g w}, R s g w s g w
 trans : ∀ {s1 g1 w1 s2 g2 w2 s3 g3 w3}, R s1 g1 w1 s2 g2 w2 → R s2 g2 w2 s3 g3 w3 → R s1 g1 w1 s3 g3 w3
section
variable {σ : Type} {P : Program} {pu : Bool} {C : σ → Gh → World → Prop} {R : σ → Gh → World → σ → Gh → World → Prop} {s : σ} {st : St} {Q : σ → Exit → St → Prop}
def SWG (P : Program) (C : σ → Gh → World → Prop) (R : σ → Gh → World → σ → Gh → World → Prop) (s : σ) (c : Code) (st : St) (Q : σ → Exit → St → Prop) : Prop :=
 ∀ a w g, Rel st a w g → C s g w → c.wp P (fun e a' w' => ∃ s' st' g', Q s' e st' ∧ Rel st' a' w' g' ∧ C s' g' w' ∧ R s g w s' g' w') a w
def xc (N : σ → St → Prop) (Q : σ → Exit → St → Prop) : σ → Exit → St → Prop := fun s e st => match e with
 | .normal => N s st
 | e => Q s e st
def si (id : Nat) (Q : σ → Exit → St → Prop) : σ → Exit → St → Prop := fun s e st => match e with
 | .exit id' => if id' = id then Q s .normal st else Q s (.exit id') st
 | e => Q s e st
theorem dj {N : σ → St → Prop} (h : N s st) : xc N Q s .normal st := h
theorem yn {id : Nat} (h : Q s .normal st) : si id Q s .normal st := h
theorem ym {id : Nat} (h : Q s .normal st) : si id Q s (.exit id) st := by
 show (if id = id then _ else _)
 rw [if_pos rfl]
 exact h
theorem SWG.of (hC : GC pu C R) {c : Code} (h : SW P pu c st (Q s)) : SWG P C R s c st Q := fun a w g hr hc =>
 Code.wp_mono (fun e a' w' ⟨st', g', q, r, f⟩ => ⟨s, st', g', q, r, (hC.fr hc f).1, (hC.fr hc f).2⟩) (h a w g hr)
theorem SWG.seq (hC : GC pu C R) {x y : Code} (h : SWG P C R s x st (xc (fun s' st' => SWG P C R s' y st' Q) Q)) : SWG P C R s (.seq x y) st Q := by
 intro a w g hr hc
 refine wp_seq (Code.wp_mono (fun e a' w' hh => ?_) (h a w g hr hc))
 obtain ⟨s', st', g', q, r, c', f⟩ := hh
 cases e with
 | normal =>
  refine Code.wp_mono (fun e2 a2 w2 hh2 => ?_) (q a' w' g' r c')
  obtain ⟨b2, st2, g2, q2, r2, c2, f2⟩ := hh2
  exact ⟨b2, st2, g2, q2, r2, c2, hC.trans f f2⟩
 | _ => exact ⟨s', st', g', q, r, c', f⟩
theorem SWG.kp {c : Code} (n : Nat) (H : List ar) (L : List Nat) (ll : List (Nat × SV)) (hst : aV n L st = some (ll, H)) (h : SWG P C R s c (sp n ll H) Q) : SWG P C R s c st Q :=
 fun a w g hr hc => h a w g (hr.bk (ay hst)) hc
theorem SWG.block {id : Nat} {c : Code} (h : SWG P C R s c st (si id Q)) : SWG P C R s (.block id c) st Q := by
 intro a w g hr hc
 refine wp_block (Code.wp_mono (fun e a' w' hh => ?_) (h a w g hr hc))
 obtain ⟨b', st', g', q, r, c', f⟩ := hh
 cases e with
 | exit id' =>
  simp only [si] at q
  simp only [Exit.inBlock]
  split at q
  ·rename_i hi; rw [if_pos hi]; exact ⟨b', st', g', q, r, c', f⟩
  ·rename_i hi; rw [if_neg hi]; exact ⟨b', st', g', q, r, c', f⟩
 | _ => exact ⟨b', st', g', q, r, c', f⟩
theorem SWG.cond {c : Operand} {x y : Code} {v : Bool} (hc : bK st c = some (.bool v)) (h : SWG P C R s (cond v x y) st Q) : SWG P C R s (.cond c x y) st Q := by
 cases v
 ·exact fun a w g hr hC => wp_cond (bG hr hc rfl) (by simpa using h a w g hr hC)
 ·exact fun a w g hr hC => wp_cond (bG hr hc rfl) (by simpa using h a w g hr hC)
variable {ops : Array Oper} {d m i k : Nat} {K : σ → St → Prop}
def OG (P : Program) (C : σ → Gh → World → Prop) (R : σ → Gh → World → σ → Gh → World → Prop) (ops : Array Oper) (d m : Nat) (s : σ) (st : St) (K : σ → St → Prop) : Prop :=
 ∀ a w g, Rel st a w g → C s g w → ∀ X : Act → World → Prop, (∀ s' st' a' w' g', K s' st' → Rel st' a' w' g' → C s' g' w' → R s g w s' g' w' → X a' w') →
  wpAnyIn Fence.wide 0 P .any ops (NX X) d (dq ops.size m) a w
def aZ (P : Program) (C : σ → Gh → World → Prop) (R : σ → Gh → World → σ → Gh → World → Prop) (ops : Array Oper) (i : Nat) (s : σ) (st : St) (K : σ → St → Prop) : Prop :=
 ∀ a w g, Rel st a w g → C s g w → ∀ (N X : Act → World → Prop), (∀ s' st' a' w' g', K s' st' → Rel st' a' w' g' → C s' g' w' → R s g w s' g' w' → N a' w') → wpOpIn Fence.wide 0 P ops (NX X) i N a w
def OGt (P : Program) (C : σ → Gh → World → Prop) (R : σ → Gh → World → σ → Gh → World → Prop) (ops : Array Oper) (k : Nat) (s : σ) (st : St) (K : σ → St → Prop) : Prop :=
 ∀ a w g, Rel st a w g → C s g w → ∀ X : Act → World → Prop, (∀ s' st' a' w' g', K s' st' → Rel st' a' w' g' → C s' g' w' → R s g w s' g' w' → X a' w') →
  wpListIn Fence.wide 0 P ops (NX X) (ops.toList.drop k) a w
theorem OG.fin (hC : GC pu C R) (h : Region.ready .any ops (dq ops.size m) = []) (hk : K s st) : OG P C R ops 0 m s st K := fun a w g hr hc X hX =>
 ⟨h, rfl, hX s st a w g hk hr hc hC.refl⟩
theorem OG.kp (n : Nat) (H : List ar) (L : List Nat) (ll : List (Nat × SV)) (hst : aV n L st = some (ll, H)) (h : OG P C R ops d m s (sp n ll H) K) : OG P C R ops d m s st K :=
 fun a w g hr hc => h a w g (hr.bk (ay hst)) hc
theorem OG.step (hC : GC pu C R) {i0 : Nat} {is : List Nat} (h : Region.ready .any ops (dq ops.size m) = i0 :: is)
  (hs : yJ (i0 :: is) (fun i => aZ P C R ops i s st (fun s' st' => OG P C R ops d (m ||| 2 ^ i) s' st' K))) : OG P C R ops (d + 1) m s st K := by
 intro a w g hr hc X hX
 refine wpAnyIn_all h (List.cons_ne_nil _ _) fun i hi => ?_
 refine mK hs i hi a w g hr hc _ X fun b1 st1 a1 w1 g1 q1 r1 c1 f1 => ?_
 rw [ja]
 exact q1 a1 w1 g1 r1 c1 X fun b2 st2 a2 w2 g2 q2 r2 c2 f2 => hX b2 st2 a2 w2 g2 q2 r2 c2 (hC.trans f1 f2)
theorem OGt.fin (hC : GC pu C R) (h : decide (ops.size ≤ k) = true) (hk : K s st) : OGt P C R ops k s st K := fun a w g hr hc X hX => by
 rw [List.drop_of_length_le (by simpa using of_decide_eq_true h)]
 exact wpListIn_nil ⟨rfl, hX s st a w g hk hr hc hC.refl⟩
theorem OGt.step (hC : GC pu C R) (hk : (ops[k]?).isSome = true) (h : aZ P C R ops k s st (fun s' st' => OGt P C R ops (k + 1) s' st' K)) : OGt P C R ops k s st K := by
 obtain ⟨o, ho⟩ := Option.isSome_iff_exists.1 hk
 intro a w g hr hc X hX
 rw [drop_cons ho]
 have h1 := h a w g hr hc (wpListIn Fence.wide 0 P ops (NX X) (ops.toList.drop (k + 1))) X fun b1 st1 a1 w1 g1 q1 r1 c1 f1 =>
  q1 a1 w1 g1 r1 c1 X fun b2 st2 a2 w2 g2 q2 r2 c2 f2 => hX b2 st2 a2 w2 g2 q2 r2 c2 (hC.trans f1 f2)
 unfold wpOpIn at h1
 rw [ho] at h1
 unfold wpListIn
 split
 ·rename_i hw
  simp only [hw, if_true] at h1
  exact h1
 ·rename_i hw
  simp only [hw, Bool.false_eq_true, if_false] at h1
  exact h1
theorem OGt.kp (n : Nat) (H : List ar) (L : List Nat) (ll : List (Nat × SV)) (hst : aV n L st = some (ll, H)) (h : OGt P C R ops k s (sp n ll H) K) : OGt P C R ops k s st K :=
 fun a w g hr hc => h a w g (hr.bk (ay hst)) hc
theorem SWG.fD {id : Nat} {ll : List Oper} (h : OGt P C R ll.toArray 0 s st (fun s' st' => Q s' .normal st')) : SWG P C R s (.region id ll.toArray false) st Q := by
 intro a w g hr hc
 refine (wpIn_wide (n := 0)).1 ?_
 refine Code.wpIn_mono (Q := NX fun a' w' => ∃ s' st' g', Q s' .normal st' ∧ Rel st' a' w' g' ∧ C s' g' w' ∧ R s g w s' g' w') (fun e a' w' hh => by obtain ⟨rfl, hh⟩ := hh; exact hh) ?_
 refine wpIn_region_list ?_
 have := h a w g hr hc (fun a' w' => ∃ s' st' g', Q s' .normal st' ∧ Rel st' a' w' g' ∧ C s' g' w' ∧ R s g w s' g' w') (fun b' st' a' w' g' q r c f => ⟨b', st', g', q, r, c, f⟩)
 rw [List.drop_zero] at this
 exact this
theorem SWG.l8 (hm : P.follows .mixedOrders = true) (hC : GC pu C R) {id : Nat} {ll : List Oper} (h : OG P C R ll.toArray ll.length 0 s st (fun s' st' => Q s' .normal st')) : SWG P C R s (.region id ll.toArray true) st Q := by
 intro a w g hr hc
 refine (wpIn_wide (n := 0)).1 ?_
 refine Code.wpIn_mono (Q := NX fun a' w' => ∃ s' st' g', Q s' .normal st' ∧ Rel st' a' w' g' ∧ C s' g' w' ∧ R s g w s' g' w') (fun e a' w' hh => by obtain ⟨rfl, hh⟩ := hh; exact hh) ?_
 refine wpIn_region_any hm ?_
 obtain ⟨hc1, hr1⟩ := hC.fr hc (Fr.drew (pu := pu))
 have := h a w.drew g hr.drew hc1 (fun a' w' => ∃ s' st' g', Q s' .normal st' ∧ Rel st' a' w' g' ∧ C s' g' w' ∧ R s g w s' g' w')
  (fun b' st' a' w' g' q r c f => ⟨b', st', g', q, r, c, hC.trans hr1 f⟩)
 rw [kU] at this
 simpa using this
theorem aZ.of (hC : GC pu C R) {o : Oper} (ho : dT ops i st = some o) (hd : dG (k5 ops i).toList = true) (h : OWk P pu (k5 ops i) 0 st (K s)) : aZ P C R ops i s st K := by
 obtain ⟨h1, h2⟩ := aW ho
 intro a w g hr hc N X hN
 have h0 := h a w g hr (NX N) (fun st' a' w' g' q r f => ⟨rfl, hN s st' a' w' g' q r (hC.fr hc f).1 (hC.fr hc f).2⟩)
 have key := gu (r := none) (n := 0) (ops' := k5 ops i) (Q := NX N) (rest := []) (fun a w h => wpListIn_nil (show NX N .normal a w from ⟨rfl, h⟩)) ((k5 ops i).toList.drop 0) a w (fun o ho => gV hd o (List.mem_of_mem_drop ho)) (fun _ _ _ _ _ => rfl) h0
 rw [List.append_nil, List.drop_zero] at key
 unfold wpOpIn
 rw [h1]
 simp only [aN hr h2, if_true]
 simp only [k5, h1, List.toList_toArray] at key
 unfold wpListIn at key
 have hw : Region.wanted { o with guard := none } (yielded #[{ o with guard := none }] a.tmps) = true := by unfold Region.wanted; rfl
 rw [if_pos hw] at key
 refine ⟨fun f _ => trivial, ?_⟩
 have k2 := key.2
 have e : (({ o with guard := none } : Oper).semAt (Fw none).round a.eval) = o.semAt Fence.wide.round a.eval := rfl
 rw [e] at k2
 generalize (o.semAt Fence.wide.round a.eval).run P w = r at *
 have nil : ∀ {a' w'}, wpListIn (Fw none) 0 P #[{ o with guard := none }] (NX N) [] a' w' → N a' w' := fun h => by
  unfold wpListIn at h; exact h.2
 cases r with
 | ok x w' =>
  cases x <;> simp only [Oper.uponIn] at k2 ⊢ <;> first
   | exact nil k2
   | exact k2.elim
   | exact ⟨k2.1, CallsIn.mono k2.2 (fun e w'' he => by cases e <;> first | exact nil he | cases he.1 | exact absurd he NX.out)⟩
   | exact ⟨k2.1, RowsIn.mono k2.2 (fun _ _ he => nil he)⟩
   | exact ⟨k2.1, RoundIn.mono k2.2 (fun e w'' he => by cases e <;> first | exact nil he | cases he.1 | exact absurd he NX.out)⟩
 | halt x w' => cases x <;> simp only [Oper.uponIn] at k2 ⊢ <;> first | exact k2.elim | cases k2.1 | exact k2
theorem aZ.val (hC : GC pu C R) {o : Oper} {x : SV} (ho : dT ops i st = some o) (h : ∀ a w g, Rel st a w g → C s g w → ∃ v, (execOp a.eval o).run P w = .ok (.value v) w ∧ BV g w st a v x) (hl : fP o.dst x = true) (hk : K s (st.put o.dst x)) : aZ P C R ops i s st K := by
 obtain ⟨h1, h2⟩ := aW ho
 intro a w g hr hc N X hN
 obtain ⟨v, e1, e2⟩ := h a w g hr hc
 unfold wpOpIn
 rw [h1]
 simp only [aN hr h2, if_true]
 refine ⟨fun f _ => trivial, ?_⟩
 show Oper.uponIn _ _ _ _ _ _ _ ((execOp a.eval o).run P w)
 rw [e1]
 simp only [Oper.uponIn]
 exact hN s _ _ w g hk (hr.pf e2 hl) hc hC.refl
end
end Go.Sh
namespace Go.Sh
structure FrO (i : Nat) (g : Gh) (w : World) (g' : Gh) (w' : World) : Prop where
 size : w.heap.size ≤ w'.heap.size
 free : az .free g w g' w'
 out : az .out g w g' w'
 rho : g'.ρ = g.ρ
 obj : ∀ j, j ≠ i → az (.obj j) g w g' w'
 ai : ∀ j c, j ≠ i → az (.lst (.ai j c)) g w g' w'
 os : cq w w'
section
variable {i : Nat} {g g1 g2 g3 g' : Gh} {w w1 w2 w3 w' : World}
theorem FrO.of (h : Fr true g w g' w') : FrO i g w g' w' := ⟨h.size, h.free, h.out, h.len rfl, fun j _ => h.obj rfl j, fun j c _ => h.ai rfl j c, h.os⟩
theorem FrO.refl : FrO i g w g w := FrO.of (Fr.refl true g w)
theorem FrO.trans (h : FrO i g1 w1 g2 w2) (h' : FrO i g2 w2 g3 w3) : FrO i g1 w1 g3 w3 :=
 ⟨Nat.le_trans h.size h'.size, h.free.trans h'.free, h.out.trans h'.out, h'.rho.trans h.rho, fun j hj => (h.obj j hj).trans (h'.obj j hj), fun j c hj => (h.ai j c hj).trans (h'.ai j c hj), h.os.trans h'.os⟩
theorem FrO.fr (h : FrO i g w g' w') : Fr false g w g' w' := ⟨h.size, h.free, h.out, fun j k hj => by rw [h.rho]; exact hj, nofun, nofun, nofun, h.os⟩
abbrev KS := List (Go.Value × Option (List Int))
def CK (oi di : Nat) (dd : D) (s : Go.Value × KS) (g : Gh) (w : World) : Prop :=
 (∃ (kv : Nat) (c : Array Go.Value) (T : TypeId) (fz : Nat × Nat), g.ρ[oi]? = some kv ∧ g.ow kv = .obj oi ∧ w.heap[kv]? = some (.cells c T fz) ∧ c[0]? = some s.1 ∧ s.1.oneCell' = true) ∧
 (∀ (p : Nat) (u : Go.Value) (ks : List Int), s.2[p]? = some (u, some ks) → bA g w (.ai oi (p + 1)) u 1 (ks.map (D.int .i64))) ∧
 (∃ (k : Nat) (c : Array Go.Value) (T : TypeId) (fz : Nat × Nat) (v : Go.Value), g.ρ[di]? = some k ∧ g.ow k = .out ∧ w.heap[k]? = some (.cells c T fz) ∧ c[0]? = some v ∧ v.oneCell' = true ∧ Rd g w v dd)
def RK (oi : Nat) : Go.Value × KS → Gh → World → Go.Value × KS → Gh → World → Prop := fun _ g w _ g' w' => FrO oi g w g' w'
variable {oi di : Nat} {dd : D} {s : Go.Value × KS}
theorem CK.aG (h : CK oi di dd s g w) (h0 : az .free g w g' w') (h1 : az .out g w g' w') (h2 : az (.obj oi) g w g' w') (h3 : ∀ c, az (.lst (.ai oi (c + 1))) g w g' w') (hρ : g'.ρ = g.ρ) : CK oi di dd s g' w' := by
 have hk : ck g g' := fun j k hj => by rw [hρ]; exact hj
 obtain ⟨⟨kv, c, T, fz, a1, a2, a3, a4, a5⟩, b, ⟨k, c', T', fz', v, d1, d2, d3, d4, d5, d6⟩⟩ := h
 obtain ⟨x1, x2⟩ := h2 kv _ a2 a3
 obtain ⟨y1, y2⟩ := h1 k _ d2 d3
 exact ⟨⟨kv, c, T, fz, hk _ _ a1, x1, x2, a4, a5⟩, fun p u ks hp => (b p u ks hp).aG h0 (h3 p) hk, k, c', T', fz', v, hk _ _ d1, y1, y2, d4, d5, d6.aG h0 hk⟩
theorem gcK : GC true (CK oi di dd) (RK oi) :=
 ⟨fun h f => ⟨h.aG f.free f.out (f.obj rfl oi) (fun c => f.ai rfl oi (c + 1)) (f.len rfl), FrO.of f⟩, FrO.refl, FrO.trans⟩
theorem CK.ren (h : CK oi di dd s g w) : CK oi di dd s (g.ren (ak [] [])) w :=
 h.aG (az.ren rfl) (az.ren rfl) (az.ren rfl) (fun c => az.ren rfl) rfl
theorem uW {H' : List ar} {s' : Go.Value × KS} (hf : FrO oi (g.ren (ak [] [])) w g3 w3) (hH : RH g3 w3 H') (hC : CK oi di dd s g w) (hC3 : CK oi di dd s' g3 w3) :
  ∃ G : Gh, FrO oi g w G w3 ∧ RH G w3 H' ∧ CK oi di dd s' G w3 ∧ ∀ o, fA o = false → az o g w G w3 := by
 obtain ⟨p1, p2⟩ := iu 0 hf.fr hH
 have hsh : ∀ o, fA o = true → (ak [] [] o = o) → (rp 0 o = o) → az o (g.ren (ak [] [])) w g3 w3 → az o g w ⟨fM w.heap.size 0 g.ow g3.ow, g3.ρ⟩ w3 := fun o ho hc hb hk k b h1 h2 => by
  obtain ⟨x, y⟩ := hk k b (by simp [Gh.ren, h1, hc]) h2
  refine ⟨?_, y⟩
  have := oV (t := 0) hf.fr (fun e => by subst e; cases ho) x (fun e => by subst e; cases ho)
  rw [this, hb]
 refine ⟨_, ⟨p1.size, p1.free, p1.out, hf.rho, fun j hj => hsh _ rfl rfl rfl (hf.obj j hj), fun j c hj => hsh _ rfl rfl rfl (hf.ai j c hj), p1.os⟩, p2, ?_, fun o ho => qW hf.fr ho⟩
 obtain ⟨⟨kv, c, T, fz, a1, a2, a3, a4, a5⟩, b, ⟨k, c', T', fz', v, d1, d2, d3, d4, d5, d6⟩⟩ := hC3
 have hk3 : ∀ o, fA o = true → rp 0 o = o → az o g3 w3 ⟨fM w.heap.size 0 g.ow g3.ow, g3.ρ⟩ w3 := fun o ho hb k b h1 h2 => by
  refine ⟨?_, h2⟩
  have := oV (t := 0) hf.fr (fun e => by subst e; cases ho) h1 (fun e => by subst e; cases ho)
  rw [this, hb]
 have hfree : az .free g3 w3 ⟨fM w.heap.size 0 g.ow g3.ow, g3.ρ⟩ w3 := fun k b h1 h2 => ⟨oV (t := 0) hf.fr (by simp) h1 (fun _ => rfl), h2⟩
 refine ⟨⟨kv, c, T, fz, a1, (hk3 _ rfl rfl kv _ a2 a3).1, a3, a4, a5⟩, fun p u ks hp => (b p u ks hp).aG hfree (hk3 _ rfl rfl) (fun _ _ h => h), k, c', T', fz', v, d1, ?_, d3, d4, d5, d6.aG hfree (fun _ _ h => h)⟩
 obtain ⟨-, -, k0, c0, T0, fz0, v0, e1, e2, e3, -⟩ := hC
 have hkk : k0 = k := by
  have h1 : g3.ρ[di]? = some k0 := by rw [hf.rho]; exact e1
  rw [d1] at h1
  exact (Option.some.inj h1).symm
 subst hkk
 exact (p1.out k0 _ e2 e3).1
def ib (oi : Nat) : SV → Bool
 | .bf (.ai i _) _ _ | .bO (.ai i _) _ => i != oi
 | _ => true
theorem Rel.AK {st : St} {a : Act} {H' : List ar} {r : D} {v : Go.Value} {d : Option Tmp} (hr : Rel st a w g) (hn : st.tmps.all (ib oi) = true) (hH : RH g' w' H') (hf : FrO oi g w g' w')
  (hkp : ∀ o, fA o = false → az o g w g' w') (hv : Rd g' w' v r) : Rel ⟨(st.put d (.d r)).tmps, H'⟩ (a.put d v) w' g' := by
 refine Rel.step hr (by rw [cm]; simp only [St.eg]; exact hr.len) (by rw [put_defers]; exact hr.cH) (fun j k hj => by rw [hf.rho]; exact hj) (fun t s hs => ?_) hH
 by_cases hdt : d = some t
 ·simp only at hs
  rw [hdt] at hs ⊢
  obtain ⟨rfl, hlt⟩ := St.bU hs
  refine .inr (.inl ?_)
  rw [bb (by rw [hr.len]; exact hlt)]
  exact hv
 ·simp only at hs
  have hput : s = .undef ∨ (st.tmps[t]? = some s ∧ ∀ t0 old, d = some t0 → st.tmps[t0]? = some old → mv old = true → bV t0 s = false) := by
   cases hdst : d with
   | none => rw [hdst] at hs; exact .inr ⟨hs, by simp⟩
   | some t0 =>
    rw [hdst] at hs hdt
    rcases St.gU (fun e => hdt (by rw [e])) hs with h | ⟨h1, h2⟩
    ·exact .inl h
    ·exact .inr ⟨h1, fun t1 old e => by cases e; exact h2 old⟩
  rcases hput with rfl | ⟨hs3, hs2⟩
  ·exact .inl rfl
  ·have hnh : ib oi s = true := List.all_eq_true.1 hn s (List.mem_iff_getElem?.2 ⟨t, hs3⟩)
   refine .inr (.inr ⟨hs3, bj hdt, fun o' ho' => ?_, fun s0 e => ?_⟩)
   ·cases o' with
    | obj i => exact absurd ho' iT
    | lst l =>
     cases l with
     | ai i j =>
      refine hf.ai i j (fun e => ?_)
      subst e
      cases s <;> simp [eS] at ho'
      ·subst ho'; simp [ib] at hnh
      ·subst ho'; simp [ib] at hnh
     | _ => exact hkp _ rfl
    | _ => exact hkp _ rfl
   ·obtain ⟨x0, hx0, hb0⟩ := gr (hr.tmp t _ hs3) e
    have hd0 : d ≠ some s0 := fun e2 => by
     have := hs2 s0 _ e2 hx0 (dV hb0)
     rw [bJ e] at this
     cases this
    exact ⟨bj hd0, fun x hx hb => ⟨x, St.gj hx hb hd0, rfl⟩⟩
end
end Go.Sh
namespace Go.Sh
section
variable {P : Program} {oi di : Nat} {dd : D} {s : Go.Value × KS} {ops : Array Oper} {i k d m : Nat} {st : St} {K : Go.Value × KS → St → Prop}
theorem aZ.nL {o' : Option Tmp} (h : wL P ops i st = some (o', oi)) (hk : K s (st.put o' (.d (.raw s.1)))) : aZ P (CK oi di dd) (RK oi) ops i s st K := by
 unfold wL at h
 split at h
 ·rename_i o ho
  split at h
  ·rename_i T x hop
   split at h
   ·rename_i i' hx
    split at h
    ·rename_i hT
     cases h
     simp only [Bool.and_eq_true, Bool.not_eq_true'] at hT
     refine aZ.val gcK ho (fun a w g hr hc => ?_) rfl hk
     obtain ⟨⟨kv, c, T0, fz, e1, e2, e3, e4, e5⟩, -⟩ := hc
     have hrx := bw hr hx
     have hev : a.eval x = .pointer (some ⟨kv, 0, none⟩) := by
      generalize a.eval x = u at hrx
      cases hrx with
      | ptr hh => rw [e1] at hh; cases hh; rfl
     refine ⟨s.1, ?_, (.raw e5 : Rd g w s.1 (.raw s.1))⟩
     unfold execOp
     rw [hop]
     simp only [Instr.loadAt, hev, Instr.sureAddr, Sem.run_bind, Sem.run_pure, Result.andThen_ok, cd hT.1 hT.2 e3 e4]
    ·cases h
   ·cases h
  ·cases h
 ·cases h
theorem aZ.uM {o' : Option Tmp} (h : wL P ops i st = some (o', di)) (hk : K s (st.put o' (.d dd))) : aZ P (CK oi di dd) (RK oi) ops i s st K := by
 unfold wL at h
 split at h
 ·rename_i o ho
  split at h
  ·rename_i T x hop
   split at h
   ·rename_i i' hx
    split at h
    ·rename_i hT
     cases h
     simp only [Bool.and_eq_true, Bool.not_eq_true'] at hT
     obtain ⟨h1, h2⟩ := aW ho
     intro a w g hr hc N R' hN
     have hc0 := hc
     obtain ⟨-, -, kv, c, T0, fz, v, e1, e2, e3, e4, e5, e6⟩ := hc
     have hrx := bw hr hx
     have hev : a.eval x = .pointer (some ⟨kv, 0, none⟩) := by
      generalize a.eval x = u at hrx
      cases hrx with
      | ptr hh => rw [e1] at hh; cases hh; rfl
     unfold wpOpIn
     rw [h1]
     simp only [aN hr h2, if_true]
     refine ⟨fun f _ => trivial, ?_⟩
     have hex : (execOp a.eval o).run P w = .ok (.value v) w := by
      unfold execOp
      rw [hop]
      simp only [Instr.loadAt, hev, Instr.sureAddr, Sem.run_bind, Sem.run_pure, Result.andThen_ok, cd hT.1 hT.2 e3 e4]
     show Oper.uponIn _ _ _ _ _ _ _ ((execOp a.eval o).run P w)
     rw [hex]
     simp only [Oper.uponIn]
     exact hN s _ _ w g hk (hr.b9 o.dst e6) hc0 FrO.refl
    ·cases h
   ·cases h
  ·cases h
 ·cases h
theorem CK.main {w : World} {g : Gh} {n : Nat} {xs : List D} (hr : RH g w st.H) (hc : CK oi di dd s g w) (hH : st.H[oi]? = some (.cells [.own n xs])) : ∃ (kv : Nat) (cv : Array Go.Value) (Tv : TypeId), g.ρ[oi]? = some kv ∧ g.ow kv = .obj oi ∧ w.heap[kv]? = some (.cells cv Tv (0, 0)) ∧ cv.size = 1 ∧ cv[0]? = some s.1 ∧
  bA g w (.ai oi 0) s.1 n xs := by
 obtain ⟨⟨kv, c, T, fz, a1, a2, a3, a4, a5⟩, -⟩ := hc
 obtain ⟨kv', c', T', b1, b2, b3, b4, b5⟩ := hr.2 oi _ hH
 rw [a1] at b1
 cases b1
 rw [a3] at b3
 cases b3
 obtain ⟨u, u1, u2, u3⟩ := b5 0 _ rfl
 rw [a4] at u1
 cases u1
 exact ⟨kv, c, T, a1, a2, a3, by simpa using b4, a4, u2⟩
theorem bA.block {g : Gh} {w : World} {o : Loc} {v : Go.Value} {n : Nat} {xs : List D} (h : bA g w o v n xs) (hx : xs ≠ []) : ∃ (k off cap : Nat) (c : Array Go.Value) (T : TypeId) (us : Nat → Nat → Go.Value), v = .slice (some ⟨k, off, none⟩) xs.length cap ∧ g.ow k = .lst o ∧
  w.heap[k]? = some (.cells c T (0, 0)) ∧ xs.length ≤ cap ∧ off + cap * n ≤ c.size ∧
  (∀ (i : Nat) (x : D), xs[i]? = some x → x.cells.length = n) ∧
  (∀ (i : Nat) (x : D), xs[i]? = some x → ∀ (j : Nat) (y : D), x.cells[j]? = some y → c[off + i * n + j]? = some (us i j) ∧ (us i j).oneCell' = true) ∧
  (∀ (i : Nat) (x : D), xs[i]? = some x → ∀ (j : Nat) (y : D), x.cells[j]? = some y → Rd g w (us i j) y) := by
 rcases h with ⟨h, -⟩ | h
 ·exact absurd h hx
 ·exact h
def k6 (v : Go.Value) (m : Nat) : Go.Value := match v with
 | .slice (some a) _ _ => .pointer (some (a.add m))
 | v => v
def vL (P : Program) (ops : Array Oper) (k : Nat) (st : St) : Option (Option Tmp × D × Int × Nat) := match dT ops k st with
 | some o => match o.op with
  | .indexAddr T x ix => match bK st x, gM st ix with
   | some v, some (_, j) => if er P T ≠ 0 then some (o.dst, v, j, er P T) else none
   | _, _ => none
  | _ => none
 | none => none
theorem aZ.zy {o' : Option Tmp} {n : Nat} {xs : List D} {j : Int} (h : vL P ops i st = some (o', .raw s.1, j, n)) (hH : st.H[oi]? = some (.cells [.own n xs])) (h0 : 0 ≤ j) (h1 : j.toNat < xs.length)
  (hk : K s (st.put o' (.d (.raw (k6 s.1 (j.toNat * n)))))) : aZ P (CK oi di dd) (RK oi) ops i s st K := by
 unfold vL at h
 split at h
 ·rename_i o ho
  split at h
  ·rename_i T x ix hop
   split at h
   ·rename_i v ik j' hx hi
    split at h
    ·rename_i hT
     simp only [Option.some.injEq, Prod.mk.injEq] at h
     obtain ⟨rfl, rfl, rfl, rfl⟩ := h
     refine aZ.val gcK ho (fun a w g hr hc => ?_) rfl hk
     obtain ⟨kv, cv, Tv, -, -, -, -, -, hO⟩ := CK.main hr.hp hc hH
     obtain ⟨km, off, cap, c, T0, us, e1, e2, e3, e4, e5, e6, e7, e8⟩ := hO.block (fun e => by subst e; simp at h1)
     obtain ⟨e, he1, he2⟩ := mD hT
     have hrx := bw hr hx
     have hev : a.eval x = s.1 := by
      generalize a.eval x = u at hrx
      cases hrx; rfl
     have hei := fe hr hi
     have hpt : k6 s.1 (j'.toNat * er P T) = .pointer (some ⟨km, off + j'.toNat * er P T, none⟩) := by rw [e1]; simp only [k6, Addr.add_lit]
     refine ⟨_, ?_, (show Rd g w (k6 s.1 (j'.toNat * er P T)) (.raw (k6 s.1 (j'.toNat * er P T))) from .raw (by rw [hpt]; rfl))⟩
     unfold execOp
     rw [hop]
     simp only [hev, hei, e1]
     rw [Sem.run_bind, mr he1 (by rw [← he2]; exact hT) h0 (by omega)]
     rw [← e1, hpt, he2]
     rfl
    ·cases h
   ·cases h
  ·cases h
 ·cases h
def vP (P : Program) (ops : Array Oper) (k : Nat) (st : St) : Option (Option Tmp × D × Nat) := match dT ops k st with
 | some o => match o.op with
  | .fieldAddr S x f => match bK st x, mz P S f with
   | some v, some fo => some (o.dst, v, fo)
   | _, _ => none
  | _ => none
 | none => none
theorem aZ.Az {o' : Option Tmp} {n m fo : Nat} {xs : List D} (h : vP P ops i st = some (o', .raw (k6 s.1 m), fo)) (hH : st.H[oi]? = some (.cells [.own n xs])) (hne : xs ≠ [])
  (hk : K s (st.put o' (.d (.raw (k6 s.1 (m + fo)))))) : aZ P (CK oi di dd) (RK oi) ops i s st K := by
 unfold vP at h
 split at h
 ·rename_i o ho
  split at h
  ·rename_i S x f hop
   split at h
   ·rename_i v fo' hx hfo
    simp only [Option.some.injEq, Prod.mk.injEq] at h
    obtain ⟨rfl, rfl, rfl⟩ := h
    refine aZ.val gcK ho (fun a w g hr hc => ?_) rfl hk
    obtain ⟨kv, cv, Tv, -, -, -, -, -, hO⟩ := CK.main hr.hp hc hH
    obtain ⟨km, off, cap, c, T0, us, e1, -⟩ := hO.block hne
    have hrx := bw hr hx
    have hev : a.eval x = k6 s.1 m := by
     generalize a.eval x = u at hrx
     cases hrx; rfl
    have hp : ∀ m, k6 s.1 m = .pointer (some ⟨km, off + m, none⟩) := fun m => by rw [e1]; simp only [k6, Addr.add_lit]
    refine ⟨_, ?_, (show Rd g w (k6 s.1 (m + fo')) (.raw (k6 s.1 (m + fo'))) from .raw (by rw [hp]; rfl))⟩
    unfold execOp
    rw [hop]
    simp only [hev, hp]
    rw [Sem.run_bind, gq hfo]
    rw [Nat.add_assoc]
    rfl
   ·cases h
  ·cases h
 ·cases h
theorem aZ.zT {t p : Nat} {u : Go.Value} {ks : List Int} {x : SV} (ht : st.tmps[t]? = some (.d (.raw u))) (hp : s.2[p]? = some (u, some ks)) (hn : st.tmps.all (ib oi) = true) (hH : st.H[oi]? = some (.cells [x]))
  (h : aZ P (CK oi di dd) (RK oi) ops i (s.1, s.2.set p (u, none)) ⟨(st.set t (.own 1 (ks.map (D.int .i64)))).tmps, st.H⟩ K) : aZ P (CK oi di dd) (RK oi) ops i s st K := by
 intro a w g hr hc N X hX
 let g' := g.ren (g9 oi (p + 1) t)
 have hk : ∀ o', o' ≠ .lst (.ai oi (p + 1)) → az o' g w g' w := fun o' h => az.ren (kM h)
 have hrel : Rel ⟨(st.set t (.own 1 (ks.map (D.int .i64)))).tmps, st.H⟩ a w g' := by
  refine Rel.step hr (by simp [St.set, hr.len]) hr.cH (fun _ _ h => h) (fun t' sv hs => ?_) ⟨by simp [g', Gh.ren, hr.hp.1], fun i' o' hi' => ?_⟩
  ·by_cases e : t = t'
   ·subst e
    simp only [St.set] at hs
    rw [List.getElem?_set_self (aD ht)] at hs
    cases hs
    refine .inr (.inl ?_)
    have hv : Rd g w (valOf a t) (.raw u) := hr.tmp t _ ht
    have hv2 : valOf a t = u := by generalize valOf a t = z at hv; cases hv; rfl
    show bA g' w (.slot t) (valOf a t) 1 _
    rw [hv2]
    exact bA.ren (kM (by simp)) (by simp [g9]) (hc.2.1 p u ks hp)
   ·simp only [St.set] at hs
    rw [List.getElem?_set_ne e] at hs
    have hnh : ib oi sv = true := List.all_eq_true.1 hn sv (List.mem_iff_getElem?.2 ⟨t', hs⟩)
    refine .inr (.inr ⟨hs, rfl, fun o' ho' => hk o' (fun e2 => ?_), fun s0 e0 => ⟨rfl, fun y hy hb => ⟨y, ?_, rfl⟩⟩⟩)
    ·subst e2
     cases sv <;> simp [eS] at ho'
     ·subst ho'; simp [ib] at hnh
     ·subst ho'; simp [ib] at hnh
    ·have hne : t ≠ s0 := fun e3 => by
      subst e3
      rw [ht] at hy
      cases hy
      simp [dt] at hb
     show ((st.set t _).tmps)[s0]? = some y
     simp only [St.set]
     rw [List.getElem?_set_ne hne]
     exact hy
  ·simp only at hi'
   by_cases e : oi = i'
   ·subst e
    rw [hH] at hi'
    cases hi'
    obtain ⟨kv, c, T, f1, f2, f3, f4, f5⟩ := hr.hp.2 oi _ hH
    refine ⟨kv, c, T, f1, by simp [g', Gh.ren, f2, g9], f3, f4, fun j sv hj => ?_⟩
    obtain ⟨v, v1, v2, v3⟩ := f5 j sv hj
    have hj0 : j = 0 := by have := aD hj; simp at this; exact this
    subst hj0
    exact ⟨v, v1, v2.aG (hk _ (by simp)) (hk _ (by simp)) (fun _ _ h => h), v3⟩
   ·exact (hr.hp.2 i' o' hi').jD (hk _ (by simp)) (hk _ (by simp)) (fun j => hk _ (fun e2 => by cases e2; exact e rfl)) (fun _ _ h => h)
 have hfr : FrO oi g w g' w := ⟨Nat.le_refl _, hk _ (by simp), hk _ (by simp), rfl, fun j _ => hk _ (by simp), fun j c hj => hk _ (fun e => by cases e; exact hj rfl), cq.refl _⟩
 have hC' : CK oi di dd (s.1, s.2.set p (u, none)) g' w := by
  obtain ⟨⟨kv, c, T, fz, a1, a2, a3, a4, a5⟩, b, ⟨k, c', T', fz', v, d1, d2, d3, d4, d5, d6⟩⟩ := hc
  refine ⟨⟨kv, c, T, fz, a1, by simp [g', Gh.ren, a2, g9], a3, a4, a5⟩, fun p' u' ks' hp' => ?_, k, c', T', fz', v, d1, by simp [g', Gh.ren, d2, g9], d3, d4, d5, d6.aG (hk _ (by simp)) (fun _ _ h => h)⟩
  by_cases e : p = p'
  ·subst e
   rw [List.getElem?_set_self (aD hp)] at hp'
   cases hp'
  ·rw [List.getElem?_set_ne e] at hp'
   exact (b p' u' ks' hp').aG (hk _ (by simp)) (hk _ (by simp; omega)) (fun _ _ h => h)
 exact h a w g' hrel hC' N X fun s' st' a' w' g2 q r c f => hX s' st' a' w' g2 q r c (hfr.trans f)
end
end Go.Sh
namespace Go.Sh
section
variable {P : Program} {oi di : Nat} {dd : D} {s : Go.Value × KS} {ops : Array Oper} {i k d m : Nat} {st : St} {K : Go.Value × KS → St → Prop}
def vm (P : Program) (ops : Array Oper) (k : Nat) (st : St) : Option (D × Nat × List D) := match dT ops k st with
 | some o => match o.op with
  | .store T x (.tmp s) => if (!(P.underlying T).isNone && P.cellsOf T == 1 && o.dst.isNone) = true then match bK st x, st.tmps[s]? with
   | some v, some (.own 1 xs) => some (v, s, xs)
   | _, _ => none
   else none
  | _ => none
 | none => none
theorem aZ.BH {p q n s0 : Nat} {xs cs : List D} {ks : List Int} (h : vm P ops i st = some (.raw (k6 s.1 (p * n + q)), s0, ks.map (D.int .i64))) (hH : st.H[oi]? = some (.cells [.own n xs])) (hp : xs[p]? = some (.agg cs)) (hq : q < cs.length) (hn : st.tmps.all (ib oi) = true)
  (hk : ∀ u', K (s.1, s.2.set p (u', some ks)) ⟨(st.take s0).tmps, st.H.set oi (.cells [.own n (xs.set p (.agg (cs.set q (.raw u'))))])⟩) : aZ P (CK oi di dd) (RK oi) ops i s st K := by
 unfold vm at h
 split at h
 ·rename_i o ho
  split at h
  ·rename_i T x s1 hop
   split at h
   ·rename_i hT
    simp only [Bool.and_eq_true, Bool.not_eq_true', beq_iff_eq, Option.isNone_iff_eq_none] at hT
    split at h
    ·rename_i v ys hx hs
     simp only [Option.some.injEq, Prod.mk.injEq] at h
     obtain ⟨rfl, rfl, rfl⟩ := h
     obtain ⟨h1, h2⟩ := aW ho
     intro a w g hr hc N R' hN
     have hc0 := hc
     obtain ⟨kv, cv, Tv, m1, m2, m3, m4, m5, hO⟩ := CK.main hr.hp hc hH
     obtain ⟨km, off, cap, c, T0, us, e1, e2, e3, e4, e5, e6, e7, e8⟩ := hO.block (fun e => by subst e; simp at hp)
     have hcl : cs.length = n := e6 p _ hp
     have hpl : p < xs.length := aD hp
     have hrx := bw hr hx
     have hev : a.eval x = .pointer (some ⟨km, off + (p * n + q), none⟩) := by
      generalize a.eval x = z at hrx
      cases hrx
      rw [e1]; simp only [k6, Addr.add_lit]
     have hown : bA g w (.slot s1) (valOf a s1) 1 (ks.map (D.int .i64)) := hr.tmp s1 _ hs
     obtain ⟨sa, sl, sc, hv⟩ := hown.slice
     have hevs : a.eval (.tmp s1) = .slice sa sl sc := hv
     have hpn : p * n + n ≤ xs.length * n := by
      have := Nat.mul_le_mul_right n (show p + 1 ≤ xs.length by omega)
      rw [Nat.succ_mul] at this; exact this
     have hcap : xs.length * n ≤ cap * n := Nat.mul_le_mul_right n e4
     have hin : off + (p * n + q) + 0 + 1 ≤ c.size := by omega
     obtain ⟨w', r1, r2, r3, c', r4, r5, r6⟩ := bx (P := P) km (off + (p * n + q)) T0 [.slice sa sl sc] 0 c w e3 (by simpa using hin) (by simp [Value.oneCell'])
     have hos := bT (P := P) km (off + (p * n + q)) T0 [.slice sa sl sc] 0 c w w' e3 (by simpa using hin) (by simp [Value.oneCell']) r1
     let g' := g.ren (eV oi (p + 1) s1)
     have hkp : ∀ o', o' ≠ .lst (.slot s1) → o' ≠ .lst (.ai oi 0) → az o' g w g' w' := fun o' h1 h2 => (az.block e2 h2 r3).trans (az.ren (kX h1))
     have hfr : FrO oi g w g' w' := ⟨by rw [r2]; exact Nat.le_refl _, hkp _ (by simp) (by simp), hkp _ (by simp) (by simp), rfl, fun j _ => hkp _ (by simp) (by simp), fun j c hj => hkp _ (by simp) (fun e => by cases e; exact hj rfl), hos⟩
     have hslot : bA g' w' (.ai oi (p + 1)) (valOf a s1) 1 (ks.map (D.int .i64)) := by
      have h1 : bA g' w (.ai oi (p + 1)) (valOf a s1) 1 (ks.map (D.int .i64)) := bA.ren (kX (by simp)) (by simp [eV]) hown
      have hne : ∀ {k0 : Nat}, g'.ow k0 = .free ∨ g'.ow k0 = .lst (.ai oi (p + 1)) → k0 ≠ km := fun hk0 e => by
       subst e; simp [g', Gh.ren, e2, eV] at hk0
      refine bA.aG (fun k0 b hk0 hb0 => ⟨hk0, ?_⟩) (fun k0 b hk0 hb0 => ⟨hk0, ?_⟩) (fun _ _ h => h) h1
      ·rw [r3 k0 (hne (.inl hk0))]; exact hb0
      ·rw [r3 k0 (hne (.inr hk0))]; exact hb0
     have hmain : bA g' w' (.ai oi 0) s.1 n (xs.set p (.agg (cs.set q (.raw (valOf a s1))))) := by
      refine .inr ⟨km, off, cap, c', T0, fun i j => if i = p ∧ j = q then valOf a s1 else us i j, by rw [e1]; simp, by simp [g', Gh.ren, e2, eV], r4, by simpa using e4, by rw [r5]; exact e5, fun i y hy => ?_, fun i y hy j z hz => ?_, fun i y hy j z hz => ?_⟩
      ·by_cases hi : p = i
       ·subst hi
        rw [List.getElem?_set_self hpl] at hy
        cases hy
        simpa [D.cells] using hcl
       ·rw [List.getElem?_set_ne hi] at hy
        exact e6 i y hy
      ·have hjn : j < n := by
        by_cases hi : p = i
        ·subst hi
         rw [List.getElem?_set_self hpl] at hy
         cases hy
         have := aD hz
         simp only [D.cells, List.length_set] at this
         omega
        ·rw [List.getElem?_set_ne hi] at hy
         have := aD hz
         rw [e6 i y hy] at this
         exact this
       have hil : i < xs.length := by have := aD hy; simpa using this
       rw [r6]
       dsimp only
       by_cases hij : i = p ∧ j = q
       ·rw [if_pos hij, if_pos (by simp only [List.length_cons, List.length_nil]; rw [hij.1, hij.2]; omega)]
        rw [show off + i * n + j - (off + (p * n + q) + 0) = 0 by rw [hij.1, hij.2]; omega, hv]
        exact ⟨rfl, rfl⟩
       ·have hne : ¬ (off + (p * n + q) + 0 ≤ off + i * n + j ∧ off + i * n + j < off + (p * n + q) + 0 + 1) := by
         intro hh
         have hEq : i * n + j = p * n + q := by omega
         have hqn : q < n := by omega
         have h1 : (i * n + j) / n = i := by rw [Nat.mul_comm, Nat.mul_add_div (by omega)]; simp [Nat.div_eq_of_lt hjn]
         have h2 : (p * n + q) / n = p := by rw [Nat.mul_comm, Nat.mul_add_div (by omega)]; simp [Nat.div_eq_of_lt hqn]
         have hip : i = p := by rw [← h1, ← h2, hEq]
         subst hip
         exact hij ⟨rfl, by omega⟩
        rw [if_neg (by simpa using hne), if_neg hij]
        by_cases hi : p = i
        ·subst hi
         rw [List.getElem?_set_self hpl] at hy
         cases hy
         simp only [D.cells] at hz
         rw [List.getElem?_set_ne (fun e => hij ⟨rfl, e.symm⟩)] at hz
         exact e7 p _ hp j z hz
        ·rw [List.getElem?_set_ne hi] at hy
         exact e7 i y hy j z hz
      ·have kp : ∀ {v : Go.Value} {d : D}, Rd g w v d → Rd g' w' v d := fun h => h.aG (hkp _ (by simp) (by simp)) (fun _ _ h => h)
       dsimp only
       by_cases hi : p = i
       ·subst hi
        rw [List.getElem?_set_self hpl] at hy
        cases hy
        simp only [D.cells] at hz
        by_cases hj : j = q
        ·subst hj
         rw [List.getElem?_set_self hq] at hz
         cases hz
         rw [if_pos ⟨rfl, rfl⟩]
         exact .raw (by rw [hv]; rfl)
        ·rw [List.getElem?_set_ne (fun e => hj e.symm)] at hz
         rw [if_neg (fun e => hj e.2)]
         exact kp (e8 p _ hp j z hz)
       ·rw [List.getElem?_set_ne hi] at hy
        rw [if_neg (fun e => hi e.1.symm)]
        exact kp (e8 i y hy j z hz)
     have hkvm : kv ≠ km := fun e => by subst e; rw [m2] at e2; cases e2
     have hrel : Rel ⟨(st.take s1).tmps, st.H.set oi (.cells [.own n (xs.set p (.agg (cs.set q (.raw (valOf a s1)))))])⟩ (a.put o.dst undef) w' g' := by
      rw [hT.2]
      refine Rel.step hr (by simp only [Act.put, St.iU]; exact hr.len) hr.cH (fun _ _ h => h) (fun t sv hts => ?_) ⟨by simp [g', Gh.ren, hr.hp.1], fun i' o' hi' => ?_⟩
      ·rcases St.dL hts with h | ⟨h1, h2, h3⟩
       ·exact .inl h
       ·have hnh : ib oi sv = true := List.all_eq_true.1 hn sv (List.mem_iff_getElem?.2 ⟨t, h1⟩)
        refine .inr (.inr ⟨h1, rfl, fun o' ho' => hkp o' (fun e2 => ?_) (fun e2 => ?_), fun s0 e0 => ⟨rfl, fun y hy hb => ⟨y, ?_, rfl⟩⟩⟩)
        ·subst e2
         rcases kL ho' with h | h
         ·exact h2 h.symm
         ·rw [h3] at h; cases h
        ·subst e2
         cases sv <;> simp [eS] at ho'
         ·subst ho'; simp [ib] at hnh
         ·subst ho'; simp [ib] at hnh
        ·have hne : s0 ≠ s1 := fun e2 => by rw [e2] at e0; rw [bJ e0] at h3; cases h3
         show ((st.kill s1).set s1 .undef).tmps[s0]? = some y
         simp only [St.set, List.getElem?_set_ne (Ne.symm hne)]
         simp [St.kill, hy, cF hb]
      ·simp only at hi'
       by_cases e : oi = i'
       ·subst e
        rw [List.getElem?_set_self (aD hH)] at hi'
        cases hi'
        refine ⟨kv, cv, Tv, m1, by simp [g', Gh.ren, m2, eV], by rw [r3 kv hkvm]; exact m3, by simp [m4], fun j sv hj => ?_⟩
        cases j with
        | zero =>
         cases hj
         exact ⟨s.1, m5, hmain, by rw [e1]; rfl⟩
        | succ j => simp at hj
       ·rw [List.getElem?_set_ne e] at hi'
        exact (hr.hp.2 i' o' hi').jD (hkp _ (by simp) (by simp)) (hkp _ (by simp) (by simp)) (fun j => hkp _ (by simp) (fun e2 => by cases e2; exact e rfl)) (fun _ _ h => h)
     have hC' : CK oi di dd (s.1, s.2.set p (valOf a s1, some ks)) g' w' := by
      obtain ⟨⟨kv', c0, T1, fz, a1, a2, a3, a4, a5⟩, b, ⟨k, c1, T2, fz', v', d1, d2, d3, d4, d5, d6⟩⟩ := hc0
      refine ⟨⟨kv', c0, T1, fz, a1, (hkp _ (by simp) (by simp) kv' _ a2 a3).1, (hkp _ (by simp) (by simp) kv' _ a2 a3).2, a4, a5⟩, fun p' u' ks' hp' => ?_, k, c1, T2, fz', v', d1, (hkp _ (by simp) (by simp) k _ d2 d3).1, (hkp _ (by simp) (by simp) k _ d2 d3).2, d4, d5, d6.aG (hkp _ (by simp) (by simp)) (fun _ _ h => h)⟩
      by_cases e : p = p'
      ·subst e
       rw [List.getElem?_set] at hp'
       simp only [if_true] at hp'
       split at hp'
       ·cases hp'; exact hslot
       ·cases hp'
      ·simp only at hp'
       rw [List.getElem?_set_ne e] at hp'
       exact (b p' u' ks' hp').aG (hkp _ (by simp) (by simp)) (hkp _ (by simp) (by simp)) (fun _ _ h => h)
     unfold wpOpIn
     rw [h1]
     simp only [aN hr h2, if_true]
     refine ⟨fun f _ => trivial, ?_⟩
     have hex : (execOp a.eval o).run P w = .ok .skip w' := by
      unfold execOp; rw [hop]
      simp only [Instr.storeAt, Sem.run_bind, hev, Instr.sureAddr, Sem.run_pure, Result.andThen_ok, storeVar, dP hT.1.1]
      rw [hevs]
      simp only [Value.cells]
      simp [hT.1.2, r1]
     show Oper.uponIn _ _ _ _ _ _ _ ((execOp a.eval o).run P w)
     rw [hex]
     simp only [Oper.uponIn]
     exact hN _ _ _ w' g' (hk _) hrel hC' hfr
    ·cases h
   ·cases h
  ·cases h
 ·cases h
end
end Go.Sh
namespace Go.Sh
section
variable {P : Program} {oi di : Nat} {dd : D} {s : Go.Value × KS} {ops : Array Oper} {i k d m : Nat} {st : St} {K : Go.Value × KS → St → Prop}
theorem aZ.Bi {t n : Nat} {xs : List D} {H0 : Hp} (h : yO P ops i st = some (t, oi, 0, H0)) (hH : st.H[oi]? = some (.cells [.own n xs])) (hk : K s ⟨(st.put (some t) (.own n xs)).tmps, st.H.set oi (.cells [.undef])⟩) :
  aZ P (CK oi di dd) (RK oi) ops i s st K := by
 unfold yO at h
 split at h
 ·rename_i o ho
  split at h
  ·rename_i T x hop
   split at h
   ·rename_i hc
    simp only [Bool.and_eq_true, Bool.not_eq_true'] at hc
    split at h
    ·rename_i d' i' off' hd hp
     simp only [Option.some.injEq, Prod.mk.injEq] at h
     obtain ⟨rfl, rfl, rfl, rfl⟩ := h
     obtain ⟨h1, h2⟩ := aW ho
     intro a w g hr hC N R' hN
     obtain ⟨u, g', e1, e2, e3, e4⟩ := oT hop hd hp hc.1.1 hc.1.2 hH (cs := [.own n xs]) (off := 0) rfl hc.2 hr
     have hfr : FrO i' g w g' w := ⟨Nat.le_refl _, e3 _ (by simp), e3 _ (by simp), e4, fun j _ => e3 _ (by simp), fun j c hj => e3 _ (fun e => by cases e; exact hj rfl), cq.refl _⟩
     have hC' := hC.aG (e3 _ (by simp)) (e3 _ (by simp)) (e3 _ (by simp)) (fun c => e3 _ (by simp)) e4
     unfold wpOpIn
     rw [h1]
     simp only [aN hr h2, if_true]
     refine ⟨fun f _ => trivial, ?_⟩
     show Oper.uponIn _ _ _ _ _ _ _ ((execOp a.eval o).run P w)
     rw [e1]
     simp only [Oper.uponIn]
     exact hN s _ _ w g' hk e2 hC' hfr
    ·cases h
   ·cases h
  ·cases h
 ·cases h
theorem aZ.BG {t n q : Nat} {xs cs : List D} {H0 : Hp} (h : zu P ops i st = some (t, oi, 0, n, xs ++ [.agg cs], H0)) (hH : st.H[oi]? = some (.cells [.undef])) (hq : cs[q]? = some .bW) (hl : s.2.length = xs.length)
  (hk : ∀ v' u', K (v', s.2 ++ [(u', some [])]) ⟨(st.take t).tmps, st.H.set oi (.cells [.own n (xs ++ [.agg (cs.set q (.raw u'))])])⟩) : aZ P (CK oi di dd) (RK oi) ops i s st K := by
 unfold zu at h
 split at h
 ·rename_i o ho
  split at h
  ·rename_i T x s' hop
   split at h
   ·rename_i hc
    simp only [Bool.and_eq_true, Bool.not_eq_true', beq_iff_eq, Option.isNone_iff_eq_none] at hc
    split at h
    ·rename_i i' off' n1 ys hp hs
     simp only [Option.some.injEq, Prod.mk.injEq] at h
     obtain ⟨rfl, rfl, rfl, rfl, rfl, rfl⟩ := h
     obtain ⟨h1, h2⟩ := aW ho
     intro a w g hr hC N R' hN
     have hv0 : bA g w (.slot s') (valOf a s') n1 (xs ++ [.agg cs]) := hr.tmp s' _ hs
     obtain ⟨sa, sl, sc, hv⟩ := hv0.slice
     obtain ⟨w', g', e1, e2, e3, e4, e5, e6, kv, cv, Tv, fz, m1, m2, m3, m4⟩ := pN hop hc.2 hp hs hc.1.1.1 hc.1.1.2 hH (cs := [.undef]) (off := 0) (by simp) hc.1.2 hr
     have hfr : FrO i' g w g' w' := ⟨by rw [e5]; exact Nat.le_refl _, e3 _ (by simp) (by simp), e3 _ (by simp) (by simp), e4, fun j hj => e3 _ (by simp) (by simpa using hj), fun j c hj => e3 _ (by simp) (by simp), e6⟩
     have hset : ([SV.undef].set 0 (.own n1 (xs ++ [.agg cs])) : List SV) = [.own n1 (xs ++ [.agg cs])] := rfl
     rw [hset] at e2
     have hH2 : (st.H.set i' (.cells [.own n1 (xs ++ [.agg cs])]))[i']? = some (.cells [.own n1 (xs ++ [.agg cs])]) := List.getElem?_set_self (aD hH)
     -- the list that the object holds now
     obtain ⟨kv', cv', Tv', b1, b2, b3, b4, b5⟩ := e2.hp.2 i' _ hH2
     rw [m1] at b1
     cases b1
     rw [m3] at b3
     cases b3
     obtain ⟨u, u1, u2, u3⟩ := b5 0 _ rfl
     rw [m4] at u1
     cases u1
     have hO : bA g' w' (.ai i' 0) (valOf a s') n1 (xs ++ [.agg cs]) := u2
     obtain ⟨km, off, cap, c, T0, us, f1, f2, f3, f4, f5, f6, f7, f8⟩ := hO.block (by simp)
     have hlast : (xs ++ [D.agg cs])[xs.length]? = some (.agg cs) := by simp
     have hnil : Rd g' w' (us xs.length q) .bW := f8 _ _ hlast q _ hq
     obtain ⟨ua, hua⟩ := hnil.gE
     let u' := us xs.length q
     have hO' : bA g' w' (.ai i' 0) (valOf a s') n1 (xs ++ [.agg (cs.set q (.raw u'))]) := by
      have hsplit : ∀ i y, (xs ++ [D.agg (cs.set q (.raw u'))])[i]? = some y → (i < xs.length ∧ (xs ++ [D.agg cs])[i]? = some y) ∨ (i = xs.length ∧ y = .agg (cs.set q (.raw u'))) := fun i y hy => by
       by_cases hi : i < xs.length
       ·rw [List.getElem?_append_left hi] at hy
        exact .inl ⟨hi, by rw [List.getElem?_append_left hi]; exact hy⟩
       ·have hlt := aD hy
        simp at hlt
        have : i = xs.length := by omega
        subst this
        simp at hy
        exact .inr ⟨rfl, hy.symm⟩
      refine .inr ⟨km, off, cap, c, T0, us, by rw [f1]; simp, f2, f3, by simpa using f4, f5, fun i y hy => ?_, fun i y hy j z hz => ?_, fun i y hy j z hz => ?_⟩
      ·rcases hsplit i y hy with ⟨_, h⟩ | ⟨rfl, rfl⟩
       ·exact f6 i y h
       ·have := f6 _ _ hlast
        simpa [D.cells] using this
      ·rcases hsplit i y hy with ⟨_, h⟩ | ⟨rfl, rfl⟩
       ·exact f7 i y h j z hz
       ·simp only [D.cells] at hz
        by_cases hj : q = j
        ·subst hj
         exact f7 _ _ hlast q _ hq
        ·rw [List.getElem?_set_ne hj] at hz
         exact f7 _ _ hlast j z hz
      ·rcases hsplit i y hy with ⟨_, h⟩ | ⟨rfl, rfl⟩
       ·exact f8 i y h j z hz
       ·simp only [D.cells] at hz
        by_cases hj : q = j
        ·subst hj
         rw [List.getElem?_set_self (aD hq)] at hz
         cases hz
         exact .raw (f7 _ _ hlast q _ hq).2
        ·rw [List.getElem?_set_ne hj] at hz
         exact f8 _ _ hlast j z hz
     have hrel : Rel ⟨(st.take s').tmps, st.H.set i' (.cells [.own n1 (xs ++ [.agg (cs.set q (.raw u'))])])⟩ (a.put o.dst undef) w' g' := by
      refine ⟨e2.len, e2.cH, e2.tmp, by have := e2.hp.1; simpa using this, fun j o' hj => ?_⟩
      by_cases e : i' = j
      ·subst e
       simp only at hj
       rw [List.getElem?_set_self (aD hH)] at hj
       cases hj
       refine ⟨kv, cv, _, m1, m2, m3, by simpa using b4, fun j sv hj => ?_⟩
       cases j with
       | zero => cases hj; exact ⟨valOf a s', m4, hO', u3⟩
       | succ j => simp at hj
      ·simp only at hj
       rw [List.getElem?_set_ne e] at hj
       exact e2.hp.2 j o' (by simp only; rw [List.getElem?_set_ne e]; exact hj)
     have hkr : ck g g' := fun j k hj => by rw [e4]; exact hj
     have hC' : CK i' di dd (valOf a s', s.2 ++ [(u', some [])]) g' w' := by
      obtain ⟨-, b, ⟨k, c1, T2, fz', v', d1, d2, d3, d4, d5, d6⟩⟩ := hC
      obtain ⟨x1, x2⟩ := e3 .out (by simp) (by simp) k _ d2 d3
      refine ⟨⟨kv, cv, _, _, m1, m2, m3, m4, by rw [hv]; rfl⟩, fun p u2 ks hp2 => ?_, k, c1, T2, fz', v', hkr _ _ d1, x1, x2, d4, d5, d6.aG (e3 _ (by simp) (by simp)) hkr⟩
      simp only at hp2
      by_cases hlt : p < s.2.length
      ·rw [List.getElem?_append_left hlt] at hp2
       exact (b p u2 ks hp2).aG (e3 _ (by simp) (by simp)) (e3 _ (by simp) (by simp)) hkr
      ·rw [List.getElem?_append_right (by omega)] at hp2
       cases hpp : p - s.2.length with
       | zero =>
        rw [hpp] at hp2
        cases hp2
        exact .inl ⟨rfl, ua, hua⟩
       | succ z => rw [hpp] at hp2; simp at hp2
     unfold wpOpIn
     rw [h1]
     simp only [aN hr h2, if_true]
     refine ⟨fun f _ => trivial, ?_⟩
     show Oper.uponIn _ _ _ _ _ _ _ ((execOp a.eval o).run P w)
     rw [e1]
     simp only [Oper.uponIn]
     exact hN _ _ _ w' g' (hk _ _) hrel hC' hfr
    ·cases h
   ·cases h
  ·cases h
 ·cases h
def SNK (P : Program) (oi di : Nat) (dd : D) (f : FuncId) (args : List SV) (H : List ar) (s : Go.Value × KS) (Post : Go.Value × KS → List ar → Int → Prop) : Prop :=
 ∀ (w : World) (g : Gh) (vs : Array Go.Value), CK oi di dd s g w → fj g w vs args → RH g w H → Calls P f vs w fun e w' => ∃ g' s' H' r, e = .returned (.int .i64 r) ∧ Post s' H' r ∧ RH g' w' H' ∧ CK oi di dd s' g' w' ∧ FrO oi g w g' w'
theorem aZ.vX {f : FuncId} {args : List SV} {o' : Option Tmp} {Post : Go.Value × KS → List ar → Int → Prop} (hp : SNK P oi di dd f args st.H s Post) (h : dE P ops i st [] = some (o', f, args, [], [])) (hn : st.tmps.all (ib oi) = true)
  (hk : ∀ s' H' r, Post s' H' r → K s' ⟨(st.put o' (vI r)).tmps, H'⟩) : aZ P (CK oi di dd) (RK oi) ops i s st K := by
 unfold dE at h
 split at h
 ·rename_i o ho
  split at h
  ·rename_i c hop
   split at h
   ·rename_i cs hcs
    simp only [Option.some.injEq, Prod.mk.injEq] at h
    obtain ⟨rfl, rfl, rfl, e1, e2⟩ := h
    obtain ⟨h1, h2⟩ := aW ho
    obtain ⟨f0, a0, l0, g0⟩ := cs
    cases e1; cases e2
    intro a w g hr hc N R' hN
    obtain ⟨vs, k1, k2, k3⟩ := rj hr hop hcs
    unfold wpOpIn
    rw [h1]
    simp only [aN hr h2, if_true]
    refine ⟨fun f _ => trivial, ?_⟩
    show Oper.uponIn _ _ _ _ _ _ _ ((execOp a.eval o).run P w)
    rw [k1]
    simp only [Oper.uponIn]
    refine ⟨(fun h => nomatch h), callsIn_wide.2 ((hp w _ vs hc.ren k2 k3).mono fun e w' hh => ?_)⟩
    obtain ⟨g3, s', H', r, rfl, hP, q1, q2, q3⟩ := hh
    obtain ⟨G, p1, p2, p3, p4⟩ := uW q3 q1 hc q2
    exact hN s' _ _ w' G (hk s' H' r hP) (Rel.AK hr hn p2 p1 p4 .int) p3 p1
   ·cases h
  ·cases h
 ·cases h
theorem SNK.Ar {f : FuncId} {fn : Func} {c : Code} {args : List SV} {H : List ar} {t : Nat} {Post : Go.Value × KS → List ar → Int → Prop} (hf : P.funcs[f]? = some fn) (hb : fn.body = some c) (hr : fn.results = #[.tmp t])
  (h : SWG P (CK oi di dd) (RK oi) s c (fJ fn.ntmps args H) (fun s' e st' => (e = .normal ∨ e = .ret) ∧ ∃ r, Post s' st'.H r ∧ st'.tmps[t]? = some (vI r))) : SNK P oi di dd f args H s Post := by
 intro w g vs hC ha hH
 refine calls_of_wp hf hb (Code.wp_mono (fun e a' w' hh => ?_) (h _ _ g (Rel.init ha hH fn.ntmps) hC))
 obtain ⟨s', st', g', ⟨he, z, hP, hv⟩, r, c1, f1⟩ := hh
 have hrd : Rd g' w' (valOf a' t) (.int .i64 z) := r.tmp t _ hv
 have hval : valOf a' t = .int .i64 z := by generalize valOf a' t = u at hrd; cases hrd; rfl
 have hres : (results fn a'.tmps).run P w' = .ok (.int .i64 z) w' := by
  have := gy (P := P) (fn := fn) (tm := a'.tmps) (w := w') (vs := [.int .i64 z]) (by simp [hr]) (fun j rv hj => by
   rw [hr] at hj
   cases j with
   | zero =>
    simp only [List.getElem?_toArray, List.getElem?_cons_zero, Option.some.injEq] at hj
    subst hj
    exact ⟨_, rfl, by simp only [fC]; exact congrArg (fun v => Result.ok v w') hval⟩
   | succ j => simp at hj)
  simpa using this
 rcases he with rfl | rfl
 ·exact ⟨r.cH, _, hres, g', s', st'.H, z, rfl, hP, r.hp, c1, f1⟩
 ·exact ⟨r.cH, _, hres, g', s', st'.H, z, rfl, hP, r.hp, c1, f1⟩
end
end Go.Sh
namespace Go.Sh
def kN (s off d : Nat) : Own → Own := fun o => if o = .lst (.cell s off) then .lst (.slot d) else o
theorem oU {s off d : Nat} {o : Own} (h : o ≠ .lst (.cell s off)) : kN s off d o = o := by simp [kN, h]
def m9 (s off : Nat) : SV → Bool
 | .bf (.cell t j) _ _ | .bO (.cell t j) _ => !(t == s && j == off)
 | _ => true
section
variable {P : Program} {pu : Bool} {st : St} {ops : Array Oper} {k : Nat} {Q : St → Prop}
theorem OpS.Bk {o : Oper} {T : TypeId} {x : Operand} {s off d n : Nat} {xs : List D} {cs : List SV} (hop : o.op = .load T x) (hd : o.dst = some d) (hx : jJ st x = some (s, off)) (hu : (P.underlying T).isNone = false) (ha : cy P T = false)
  (hs : st.tmps[s]? = some (.box cs)) (hc : cs[off]? = some (.own n xs)) (hdu : st.tmps[d]? = some .undef) (hn : st.tmps.all (m9 s off) = true) : OpS P pu st o ((st.set s (.box (cs.set off .undef))).set d (.own n xs)) := by
 refine OpS.value fun a w g hr => ?_
 obtain ⟨cs', k, e0, e1, e2⟩ := fi hr hx
 rw [hs] at e0
 cases e0
 obtain ⟨k', c, T0, f1, f2, f3, f4, f5⟩ := hr.tmp s _ hs
 rw [e1] at f1
 cases f1
 obtain ⟨u, u1, u2, u3⟩ := f5 off _ hc
 have hds : d ≠ s := fun e => by subst e; rw [hs] at hdu; cases hdu
 have hk : ∀ o', o' ≠ .lst (.cell s off) → az o' g w (g.ren (kN s off d)) w := fun o' h => az.ren (oU h)
 refine ⟨u, w, g.ren (kN s off d), ?_, ?_, ⟨Nat.le_refl _, hk _ (by simp), hk _ (by simp), fun _ _ h => h, fun _ i => hk _ (by simp), fun _ i j => hk _ (by simp), fun _ => rfl, ⟨rfl, rfl⟩⟩⟩
 ·unfold execOp
  rw [hop]
  simp only [Instr.loadAt, e2, Instr.sureAddr, Sem.run_bind, Sem.run_pure, Result.andThen_ok, cd hu ha f3 (by simpa using u1)]
 ·rw [hd]
  refine Rel.step hr (by rw [cm]; simp only [St.set, List.length_set]; exact hr.len) (by rw [put_defers]; exact hr.cH) (fun _ _ h => h) (fun t sv hts => ?_) (hr.hp.aG (fun o' ho' => hk o' (fun e => by subst e; exact ho')) (fun _ _ h => h) rfl)
  by_cases e : d = t
  ·subst e
   simp only [St.set] at hts
   rw [List.getElem?_set_self (by simpa using aD hdu)] at hts
   cases hts
   refine .inr (.inl ?_)
   rw [bb (by rw [hr.len]; exact aD hdu)]
   exact bA.ren (oU (by simp)) (by simp [kN]) u2
  ·simp only [St.set] at hts
   rw [List.getElem?_set_ne e] at hts
   have hdt : (some d : Option Nat) ≠ some t := by simpa using e
   by_cases es : s = t
   ·subst es
    rw [List.getElem?_set_self (aD hs)] at hts
    cases hts
    refine .inr (.inl ?_)
    rw [bj hdt]
    refine ⟨k, c, T0, e1, by simp [Gh.ren, f2, kN], f3, by simpa using f4, fun j s' hj => ?_⟩
    by_cases ej : off = j
    ·subst ej
     rw [List.getElem?_set_self (aD hc)] at hj
     cases hj
     exact ⟨u, u1, trivial, u3⟩
    ·rw [List.getElem?_set_ne ej] at hj
     obtain ⟨v, v1, v2, v3⟩ := f5 j s' hj
     exact ⟨v, v1, v2.aG (hk _ (by simp)) (hk _ (by simp; omega)) (fun _ _ h => h), v3⟩
   ·rw [List.getElem?_set_ne es] at hts
    have hnc : m9 s off sv = true := List.all_eq_true.1 hn sv (List.mem_iff_getElem?.2 ⟨t, hts⟩)
    refine .inr (.inr ⟨hts, bj hdt, fun o' ho' => hk o' (fun e2 => ?_), fun s0 e0 => ?_⟩)
    ·subst e2
     cases sv <;> simp [eS] at ho'
     ·subst ho'; simp [m9] at hnc
     ·subst ho'; simp [m9] at hnc
     ·exact es ho'
    ·have hd0 : (some d : Option Nat) ≠ some s0 := fun e2 => by
      cases e2
      obtain ⟨x0, hx0, hb0⟩ := gr (hr.tmp t _ hts) e0
      rw [hdu] at hx0
      cases hx0
      simp [dt] at hb0
     refine ⟨bj hd0, fun y hy hb => ?_⟩
     have hd1 : d ≠ s0 := fun e => hd0 (by rw [e])
     by_cases e3 : s = s0
     ·subst e3
      rw [hs] at hy
      cases hy
      exact ⟨.box (cs.set off .undef), by simp only [St.set]; rw [List.getElem?_set_ne hd1, List.getElem?_set_self (aD hs)], rfl⟩
     ·exact ⟨y, by simp only [St.set]; rw [List.getElem?_set_ne hd1, List.getElem?_set_ne e3]; exact hy, rfl⟩
def zS (P : Program) (ops : Array Oper) (k : Nat) (st : St) : Option St :=
 match dT ops k st with
 | some o => match o.op with
  | .load T x => match o.dst, jJ st x with
   | some d, some (s, off) => match st.tmps[s]?, st.tmps[d]? with
    | some (.box cs), some .undef => match cs[off]? with
     | some (.own n xs) => if (!(P.underlying T).isNone && !cy P T && st.tmps.all (m9 s off)) = true then some ((st.set s (.box (cs.set off .undef))).set d (.own n xs)) else none
     | _ => none
    | _, _ => none
   | _, _ => none
  | _ => none
 | none => none
theorem OWk.tkC (n : Nat) (H : List ar) (L : List Nat) (l : List (Nat × SV)) (h : (zS P ops k st).bind (aV n L) = some (l, H)) (hn : OWk P pu ops (k + 1) (sp n l H) Q) : OWk P pu ops k st Q := by
 simp only [Option.bind_eq_some_iff] at h
 obtain ⟨st1, h, hst⟩ := h
 unfold zS at h
 split at h
 ·rename_i o ho
  split at h
  ·rename_i T x hop
   split at h
   ·rename_i d s off hd hx
    split at h
    ·rename_i cs hs hdu
     split at h
     ·rename_i n' xs hc
      split at h
      ·rename_i hT
       cases h
       simp only [Bool.and_eq_true, Bool.not_eq_true'] at hT
       obtain ⟨g1, g2⟩ := aW ho
       exact OWk.e g1 g2 (OpS.Bk hop hd hx hT.1.1 hT.1.2 hs hc hdu hT.2) (OWk.aG L (ay hst) hn)
      ·cases h
     ·cases h
    ·cases h
   ·cases h
  ·cases h
 ·cases h
end
section
variable {P : Program} {st : St} {Q : Exit → St → Prop}
def uE (st : St) (t j n : Nat) : Option St := match st.tmps[t]? with
 | some (.box cs) => match cs[j]? with
  | some (.d .bW) => some (st.set t (.box (cs.set j (.own n []))))
  | _ => none
 | _ => none
theorem Rel.uE {st' : St} {a : Act} {w : World} {g : Gh} {t j n : Nat} (hr : Rel st a w g) (h : Sh.uE st t j n = some st') : Rel st' a w g := by
 unfold Sh.uE at h
 split at h
 ·rename_i cs ht
  split at h
  ·rename_i hc
   cases h
   refine Rel.step hr (by simp [St.set, hr.len]) hr.cH (fun _ _ h => h) (fun t' s hs => ?_) hr.hp
   by_cases e : t = t'
   ·subst e
    simp only [St.set] at hs
    rw [List.getElem?_set_self (aD ht)] at hs
    cases hs
    refine .inr (.inl ?_)
    obtain ⟨k, c, T, f1, f2, f3, f4, f5⟩ := (show RS g w st.tmps (valOf a) t (valOf a t) (.box cs) from hr.tmp t _ ht)
    refine ⟨k, c, T, f1, f2, f3, by simp [f4], fun j' s' hj => ?_⟩
    by_cases ej : j = j'
    ·subst ej
     rw [List.getElem?_set_self (aD hc)] at hj
     cases hj
     obtain ⟨u, u1, u2, u3⟩ := f5 j _ hc
     obtain ⟨a0, rfl⟩ := Rd.gE (show Rd g w u .bW from u2)
     exact ⟨_, u1, .inl ⟨rfl, a0, rfl⟩, u3⟩
    ·rw [List.getElem?_set_ne ej] at hj
     exact f5 j' s' hj
   ·simp only [St.set] at hs
    rw [List.getElem?_set_ne e] at hs
    refine .inr (.inr ⟨hs, rfl, fun o' _ => az.refl _ _ _, fun s0 e0 => ⟨rfl, fun x hx hb => ?_⟩⟩)
    by_cases e3 : t = s0
    ·subst e3
     rw [ht] at hx
     cases hx
     exact ⟨.box (cs.set j (.own n [])), by simp only [St.set]; rw [List.getElem?_set_self (aD ht)], rfl⟩
    ·exact ⟨x, by simp only [St.set]; rw [List.getElem?_set_ne e3]; exact hx, rfl⟩
  ·cases h
 ·cases h
theorem SW.uE {c : Code} (t j n' n : Nat) (H : List ar) (L : List Nat) (l : List (Nat × SV)) (hst : (Sh.uE st t j n').bind (aV n L) = some (l, H)) {pu : Bool} (h : SW P pu c (sp n l H) Q) : SW P pu c st Q := by
 simp only [Option.bind_eq_some_iff] at hst
 obtain ⟨st1, h1, h2⟩ := hst
 exact fun a w g hr => h a w g ((hr.uE h1).bk (ay h2))
def gY (s off s0 : Nat) : Own → Own := fun o => if o = .lst (.slot s0) then .lst (.cell s off) else o
theorem pO {s off s0 : Nat} {o : Own} (h : o ≠ .lst (.slot s0)) : gY s off s0 o = o := by simp [gY, h]
theorem OpS.BJ {pu : Bool} {o : Oper} {T : TypeId} {x : Operand} {s off s0 n : Nat} {xs : List D} {cs : List SV} (hop : o.op = .store T x (.tmp s0)) (hd : o.dst = none) (hx : jJ st x = some (s, off)) (hs0 : st.tmps[s0]? = some (.own n xs)) (hu : (P.underlying T).isNone = false) (hsz : P.cellsOf T = 1)
  (hs : st.tmps[s]? = some (.box cs)) (hlt : off < cs.length) (hn : st.tmps.all (m9 s off) = true) : OpS P pu st o ((st.take s0).set s (.box (cs.set off (.own n xs)))) := by
 refine OpS.skip fun a w g hr => ?_
 obtain ⟨cs', k, e0, e1, e3⟩ := fi hr hx
 rw [hs] at e0
 cases e0
 obtain ⟨k', c, T0, f1, f2, f3, f4, f5⟩ := hr.tmp s _ hs
 rw [e1] at f1
 cases f1
 have hss : s0 ≠ s := fun e => by subst e; rw [hs] at hs0; cases hs0
 have ho : bA g w (.slot s0) (valOf a s0) n xs := hr.tmp s0 _ hs0
 obtain ⟨sa, sl, sc, hv⟩ := ho.slice
 have hev : a.eval (.tmp s0) = .slice sa sl sc := hv
 obtain ⟨w', r1, r2, r3, c', r4, r5, r6⟩ := bx (P := P) k off T0 [.slice sa sl sc] 0 c w f3 (by simp; omega) (by simp [Value.oneCell'])
 have hos := bT (P := P) k off T0 [.slice sa sl sc] 0 c w w' f3 (by simp; omega) (by simp [Value.oneCell']) r1
 have hk : ∀ o', o' ≠ .lst (.slot s0) → o' ≠ .box s → az o' g w (g.ren (gY s off s0)) w' := fun o' h1 h2 => (az.block f2 h2 r3).trans (az.ren (pO h1))
 refine ⟨w', g.ren (gY s off s0), ?_, ?_, ⟨by rw [r2]; exact Nat.le_refl _, hk _ (by simp) (by simp), hk _ (by simp) (by simp), fun _ _ h => h, fun _ i => hk _ (by simp) (by simp), fun _ i j => hk _ (by simp) (by simp), fun _ => rfl, hos⟩⟩
 ·unfold execOp; rw [hop]
  simp only [Instr.storeAt, Sem.run_bind, e3, Instr.sureAddr, Sem.run_pure, Result.andThen_ok, storeVar, dP hu]
  rw [hev]
  simp only [Value.cells]
  simp [hsz, r1]
 ·rw [hd]
  refine Rel.step hr (by simp only [Act.put, St.set, List.length_set, St.iU]; exact hr.len) hr.cH (fun _ _ h => h) (fun t sv hts => ?_) (hr.hp.aG (fun o' ho' => hk o' (fun e => by subst e; exact ho') (fun e => by subst e; exact ho')) (fun _ _ h => h) rfl)
  simp only [St.set] at hts
  by_cases es : s = t
  ·subst es
   rw [List.getElem?_set_self (by simpa using aD hs)] at hts
   cases hts
   refine .inr (.inl ⟨k, c', T0, e1, by simp [Gh.ren, f2, gY], r4, by simp [r5, f4], fun j s' hj => ?_⟩)
   by_cases ej : off = j
   ·subst ej
    rw [List.getElem?_set_self hlt] at hj
    cases hj
    refine ⟨.slice sa sl sc, by rw [r6, if_pos (by simp)]; simp, ?_, rfl⟩
    rw [← hv]
    have h1 : bA (g.ren (gY s off s0)) w (.cell s off) (valOf a s0) n xs := bA.ren (pO (by simp)) (by simp [gY]) ho
    refine bA.aG (fun k0 b hk0 hb0 => ⟨hk0, ?_⟩) (fun k0 b hk0 hb0 => ⟨hk0, ?_⟩) (fun _ _ h => h) h1
    ·rw [r3 k0 (fun e => ?_)]; · exact hb0
     subst e; simp [Gh.ren, f2, gY] at hk0
    ·rw [r3 k0 (fun e => ?_)]; · exact hb0
     subst e; simp [Gh.ren, f2, gY] at hk0
   ·rw [List.getElem?_set_ne ej] at hj
    obtain ⟨v, v1, v2, v3⟩ := f5 j s' hj
    exact ⟨v, by rw [r6, if_neg (by simp; omega)]; exact v1, v2.aG (hk _ (by simp) (by simp)) (hk _ (by simp) (by simp)) (fun _ _ h => h), v3⟩
  ·rw [List.getElem?_set_ne es] at hts
   rcases St.dL hts with h | ⟨h1, h2, h3⟩
   ·exact .inl h
   ·have hnc : m9 s off sv = true := List.all_eq_true.1 hn sv (List.mem_iff_getElem?.2 ⟨t, h1⟩)
    refine .inr (.inr ⟨h1, rfl, fun o' ho' => hk o' (fun e2 => ?_) (fun e2 => ?_), fun s1 e0 => ⟨rfl, fun y hy hb => ?_⟩⟩)
    ·subst e2
     rcases kL ho' with h | h
     ·exact h2 h.symm
     ·rw [h3] at h; cases h
    ·subst e2
     cases sv <;> simp [eS] at ho'
     exact es ho'
    ·have hne : s1 ≠ s0 := fun e2 => by rw [e2] at e0; rw [bJ e0] at h3; cases h3
     by_cases e3 : s = s1
     ·subst e3
      rw [hs] at hy
      cases hy
      exact ⟨.box (cs.set off (.own n xs)), by simp only [St.set]; rw [List.getElem?_set_self (by simpa using aD hs)], rfl⟩
     ·refine ⟨y, ?_, rfl⟩
      simp only [St.set]
      rw [List.getElem?_set_ne e3]
      show ((st.kill s0).set s0 .undef).tmps[s1]? = some y
      simp only [St.set, List.getElem?_set_ne (Ne.symm hne)]
      simp [St.kill, hy, cF hb]
def z3 (P : Program) (ops : Array Oper) (k : Nat) (st : St) : Option St :=
 match dT ops k st with
 | some o => match o.op with
  | .store T x (.tmp s0) => match jJ st x, st.tmps[s0]? with
   | some (s, off), some (.own n xs) => match st.tmps[s]? with
    | some (.box cs) => if (!(P.underlying T).isNone && P.cellsOf T == 1 && o.dst.isNone && decide (off < cs.length) && st.tmps.all (m9 s off)) = true then some ((st.take s0).set s (.box (cs.set off (.own n xs)))) else none
    | _ => none
   | _, _ => none
  | _ => none
 | none => none
theorem OWk.gvC {pu : Bool} {ops : Array Oper} {k : Nat} {Q : St → Prop} (n : Nat) (H : List ar) (L : List Nat) (l : List (Nat × SV)) (h : (z3 P ops k st).bind (aV n L) = some (l, H)) (hn : OWk P pu ops (k + 1) (sp n l H) Q) : OWk P pu ops k st Q := by
 simp only [Option.bind_eq_some_iff] at h
 obtain ⟨st1, h, hst⟩ := h
 unfold z3 at h
 split at h
 ·rename_i o ho
  split at h
  ·rename_i T x s0 hop
   split at h
   ·rename_i s off n' xs hx hs0
    split at h
    ·rename_i cs hs
     split at h
     ·rename_i hT
      cases h
      simp only [Bool.and_eq_true, Bool.not_eq_true', beq_iff_eq, Option.isNone_iff_eq_none, decide_eq_true_eq] at hT
      obtain ⟨g1, g2⟩ := aW ho
      exact OWk.e g1 g2 (OpS.BJ hop hT.1.1.2 hx hs0 hT.1.1.1.1 hT.1.1.1.2 hs hT.1.2 hT.2) (OWk.aG L (ay hst) hn)
     ·cases h
    ·cases h
   ·cases h
  ·cases h
 ·cases h
end
end Go.Sh
namespace Go.Sh
section
variable {σ : Type} {P : Program} {pu : Bool} {C : σ → Gh → World → Prop} {R : σ → Gh → World → σ → Gh → World → Prop} {s : σ} {st : St} {Q : σ → Exit → St → Prop} {ops : Array Oper} {d m i k : Nat} {K : σ → St → Prop}
theorem Rel.fzC {a : Act} {w : World} {g : Gh} {t off n : Nat} {xs : List D} {cs : List SV} (hr : Rel st a w g) (hs : st.tmps[t]? = some (.box cs)) (hc : cs[off]? = some (.own n xs)) (hn : st.tmps.all (m9 t off) = true) :
  ∃ g', Rel (st.set t (.box (cs.set off (.d (.list n xs))))) a w g' ∧ Fr pu g w g' w := by
 let rn : Own → Own := fun o => if o = .lst (.cell t off) then .free else o
 have hk : ∀ o', o' ≠ .lst (.cell t off) → az o' g w (g.ren rn) w := fun o' h => az.ren (by simp [rn, h])
 refine ⟨g.ren rn, ?_, ⟨Nat.le_refl _, hk _ (by simp), hk _ (by simp), fun _ _ h => h, fun _ i => hk _ (by simp), fun _ i j => hk _ (by simp), fun _ => rfl, ⟨rfl, rfl⟩⟩⟩
 obtain ⟨kk, c, T0, f1, f2, f3, f4, f5⟩ := hr.tmp t _ hs
 refine Rel.step hr (by simp only [St.set, List.length_set]; exact hr.len) hr.cH (fun _ _ h => h) (fun t' sv hts => ?_) (hr.hp.aG (fun o' ho' => hk o' (fun e => by subst e; exact ho')) (fun _ _ h => h) rfl)
 simp only [St.set] at hts
 by_cases es : t = t'
 ·subst es
  rw [List.getElem?_set_self (aD hs)] at hts
  cases hts
  refine .inr (.inl ⟨kk, c, T0, f1, by simp [Gh.ren, f2, rn], f3, by simpa using f4, fun j s' hj => ?_⟩)
  by_cases ej : off = j
  ·subst ej
   rw [List.getElem?_set_self (aD hc)] at hj
   cases hj
   obtain ⟨u, u1, u2, u3⟩ := f5 off _ hc
   exact ⟨u, u1, cN.free (l := .cell t off) rfl (by simp [rn]) (bA.iI u2), u3⟩
  ·rw [List.getElem?_set_ne ej] at hj
   obtain ⟨v, v1, v2, v3⟩ := f5 j s' hj
   exact ⟨v, v1, v2.aG (hk _ (by simp)) (hk _ (by simp; omega)) (fun _ _ h => h), v3⟩
 ·rw [List.getElem?_set_ne es] at hts
  have hnc : m9 t off sv = true := List.all_eq_true.1 hn sv (List.mem_iff_getElem?.2 ⟨t', hts⟩)
  refine .inr (.inr ⟨hts, rfl, fun o' ho' => hk o' (fun e2 => ?_), fun s0 e0 => ⟨rfl, fun y hy hb => ?_⟩⟩)
  ·subst e2
   cases sv <;> simp [eS] at ho'
   ·subst ho'; simp [m9] at hnc
   ·subst ho'; simp [m9] at hnc
   ·exact es ho'
  ·by_cases e3 : t = s0
   ·subst e3
    rw [hs] at hy
    cases hy
    exact ⟨.box (cs.set off (.d (.list n xs))), by simp only [St.set]; rw [List.getElem?_set_self (aD hs)], rfl⟩
   ·exact ⟨y, by simp only [St.set]; rw [List.getElem?_set_ne e3]; exact hy, rfl⟩
def z8 (st : St) (t off : Nat) : Option St := match st.tmps[t]? with
 | some (.box cs) => match cs[off]? with
  | some (.own n xs) => if st.tmps.all (m9 t off) = true then some (st.set t (.box (cs.set off (.d (.list n xs))))) else none
  | _ => none
 | _ => none
theorem SWG.fzC (hC : GC pu C R) {c : Code} (t off n : Nat) (H : List ar) (L : List Nat) (ll : List (Nat × SV)) (h : (z8 st t off).bind (aV n L) = some (ll, H)) (hn : SWG P C R s c (sp n ll H) Q) : SWG P C R s c st Q := by
 simp only [Option.bind_eq_some_iff] at h
 obtain ⟨st1, h, hst⟩ := h
 unfold z8 at h
 split at h
 ·rename_i cs hs
  split at h
  ·rename_i n' xs hc
   split at h
   ·rename_i hq
    cases h
    intro a w g hr hc0
    obtain ⟨g1, r1, f1⟩ := hr.fzC (pu := pu) hs hc hq
    obtain ⟨c1, q1⟩ := hC.fr hc0 f1
    refine Code.wp_mono (fun e a' w' hh => ?_) (hn a w g1 (r1.bk (ay hst)) c1)
    obtain ⟨s', st', g', q, r, c', f⟩ := hh
    exact ⟨s', st', g', q, r, c', hC.trans q1 f⟩
   ·cases h
  ·cases h
 ·cases h
theorem SWG.itI (hC : GC pu C R) {γ β : Type} {c : Code} {body : γ → Option (γ ⊕ β)} (I : γ → σ → St → Prop) (E : β → σ → Exit → St → Prop) {fuel : Nat} {x : γ} {q : β} (hit : Sh.iter body fuel x = some q) (h0 : I x s st)
  (round : ∀ x o s st, I x s st → body x = some o → SWG P C R s c st (xc (fun s' st' => ∃ y, o = .inl y ∧ ∃ n L ll H, aV n L st' = some (ll, H) ∧ I y s' (sp n ll H)) (fun s' e st' => ∃ q, o = .inr q ∧ E q s' e st')))
  (after : ∀ s' e st', E q s' e st' → Q s' e st') : SWG P C R s (.loop c) st Q := by
 intro a w g hr hc
 refine jf (γ := γ) body (fun x a' w' => ∃ s' st' g', I x s' st' ∧ Rel st' a' w' g' ∧ C s' g' w' ∧ R s g w s' g' w') q (fun x a1 w1 ⟨s1, st1, g1, hI1, r1, c1, f1⟩ o ho => ?_) fuel x a w ⟨s, st, g, h0, hr, hc, hC.refl⟩ hit
 refine Code.wp_mono (fun e a' w' hh => ?_) (round x o s1 st1 hI1 ho a1 w1 g1 r1 c1)
 obtain ⟨b', st', g', qq, r, c', f⟩ := hh
 cases e with
 | normal => obtain ⟨y, rfl, n, L, ll, H, h1, hy⟩ := qq; exact ⟨y, rfl, b', _, g', hy, r.bk (ay h1), c', hC.trans f1 f⟩
 | _ => obtain ⟨q', rfl, h1⟩ := qq; exact ⟨q', rfl, fun e => ⟨b', st', g', after _ _ _ (e ▸ h1), r, c', hC.trans f1 f⟩⟩
variable {n : Nat} {H : Hp} {l0 : List (Nat × SV)}
theorem aZ.W {N : σ → St → Prop} (hC : GC pu C R) (h : OWk P pu (k5 ops i) 0 (sp n l0 H) (N s)) (ho : (dT ops i (sp n l0 H)).isSome = true := by kernel_rfl) (hd : dG (k5 ops i).toList = true := by kernel_rfl) : aZ P C R ops i s (sp n l0 H) N := by
 obtain ⟨o, ho⟩ := Option.isSome_iff_exists.1 ho
 exact aZ.of hC ho hd h
theorem aZ.kp (n : Nat) (H : List ar) (L : List Nat) (ll : List (Nat × SV)) {st : St} {i : Nat} (hst : aV n L st = some (ll, H)) (h : aZ P C R ops i s (sp n ll H) K) : aZ P C R ops i s st K :=
 fun a w g hr hc => h a w g (hr.bk (ay hst)) hc
theorem OGt.F (hC : GC pu C R) (h : OWk P pu (k5 ops k) 0 (sp n l0 H) (fun st => OGt P C R ops (k + 1) s st K)) (ho : (dT ops k (sp n l0 H)).isSome = true := by kernel_rfl) (hd : dG (k5 ops k).toList = true := by kernel_rfl)
  (hk : (ops[k]?).isSome = true := by kernel_rfl) : OGt P C R ops k s (sp n l0 H) K := OGt.step hC hk (aZ.W hC h ho hd)
theorem OG.B {dd : Option Tmp} {x : SV} (i : Nat) (ll : List (Nat × SV)) (hb : BAt P ops i (sp n l0 H) dd x) (h : OG P C R ops d (m ||| 2 ^ i) s (sp n ll H) K) (hst : aV n (ll.map (·.1)) ((sp n l0 H).put dd x) = some (ll, H) := by kernel_rfl)
  (hc : (Region.noSelect ops && Region.free .any ops (dq ops.size m) i && (Region.ready .any ops (dq ops.size m)).contains i && iw P ops i (sp n l0 H)) = true := by kernel_rfl) : OG P C R ops (d + 1) m s (sp n l0 H) K := by
 simp only [Bool.and_eq_true] at hc
 obtain ⟨⟨⟨c1, c2⟩, c3⟩, c4⟩ := hc
 obtain ⟨o, h1, h2, h3, h4, rfl⟩ := hb
 intro a w g hr hC X hX
 obtain ⟨v, e1, e2⟩ := h3 a w g hr
 obtain ⟨k1, k2⟩ := lj h1 c4 hr (e2 w (Up.refl w))
 refine wpAnyIn_take (i := i) (v := v) rfl h1 c1 c2 c3 (fun c a w hh => NX.no hh) ⟨.inl ⟨aN hr h2, k1⟩, k2⟩ ?_
 rw [ja]
 exact h _ w g ((hr.pf e1 h4).bk (ay hst)) hC X hX
theorem OG.hav {d0 m0 : Nat} {s0 : σ} {st0 : St} (d m n : Nat) (ll : List (Nat × SV)) (h2 : OG P C R ops d m s (sp n ll H) K) (h1 : OG P C R ops d m s (sp n ll H) K → OG P C R ops d0 m0 s0 st0 K) : OG P C R ops d0 m0 s0 st0 K := h1 h2
theorem OG.at_ {m' : Nat} (h : OG P C R ops d m' s st K) (hm : m' = m := by kernel_rfl) : OG P C R ops d m s st K := hm ▸ h
theorem OG.b (i : Nat) (ll : List (Nat × SV)) (h : OG P C R ops d (m ||| 2 ^ i) s (sp n ll H) K) (hst : (vY P ops i (sp n l0 H)).bind (fun q => aV n (ll.map (·.1)) ((sp n l0 H).put q.1 q.2)) = some (ll, H) := by kernel_rfl)
  (hc : (Region.noSelect ops && Region.free .any ops (dq ops.size m) i && (Region.ready .any ops (dq ops.size m)).contains i && iw P ops i (sp n l0 H)) = true := by kernel_rfl) : OG P C R ops (d + 1) m s (sp n l0 H) K := by
 simp only [Option.bind_eq_some_iff] at hst
 obtain ⟨q, h1, h2⟩ := hst
 exact OG.B i ll (BAt.of h1 rfl) h h2 hc
theorem mW {n : Nat} {l : List (Nat × SV)} {H : List ar} {f : SV → Bool} (h : l.all (fun p => f p.2) = true) (hu : f .undef = true) : (sp n l H).tmps.all f = true := by
 rw [List.all_eq_true] at h ⊢
 intro x hx
 obtain ⟨j, hj⟩ := List.mem_iff_getElem?.1 hx
 rcases lX n l 0 j x hj with rfl | hm
 ·exact hu
 ·exact h _ hm
theorem BAt.ldO {n' i off : Nat} {xs : List D} {cs : List SV} {H0 : Hp} {dd : Option Tmp} {st : St} (e1 : H0[i]? = some (.cells cs)) (e2 : cs[off]? = some (.own n' xs)) (h : qU P ops k st = some (dd, i, off, H0)) : BAt P ops k st dd (.bf (.ai i off) n' xs) := by
 unfold qU at h
 split at h
 ·rename_i o ho
  split at h
  ·rename_i T xo hop
   split at h
   ·rename_i i' off' h1 h2 h3
    split at h
    ·rename_i hc
     simp only [Bool.and_eq_true, Bool.not_eq_true'] at hc
     simp only [Option.some.injEq, Prod.mk.injEq] at h
     obtain ⟨rfl, rfl, rfl, rfl⟩ := h
     obtain ⟨g1, g2⟩ := aW ho
     have hu : ¬ (P.underlying T).isNone = true := by rw [hc.1.1]; exact Bool.false_ne_true
     have ha : ¬ cy P T = true := by rw [hc.1.2]; exact Bool.false_ne_true
     obtain ⟨r, hr⟩ : ∃ r, cs.drop off' = .own n' xs :: r := by
      have hlt := aD e2
      rw [List.drop_eq_getElem_cons hlt]
      rw [List.getElem?_eq_getElem hlt, Option.some.injEq] at e2
      exact ⟨_, by rw [e2]⟩
     refine ⟨o, g1, g2, bQ.fH ?_, rfl, rfl⟩
     simp only [bop, hop, kh, h1, h2, h3, e1, hr]
     unfold jb
     rw [if_neg hu, if_neg ha]
    ·cases h
   ·cases h
  ·cases h
 ·cases h
theorem BAt.ixO {xs : List D} {j : Int} {y : D} {dd : Option Tmp} {l : Option Loc} {n : Nat} {st : St} (h : tf P ops k st = some (dd, l, n, xs, j)) (h0 : 0 ≤ j) (hy : xs[j.toNat]? = some y) : BAt P ops k st dd (aO l y.cells) := by
 unfold tf at h
 split at h
 ·rename_i o ho
  split at h
  ·rename_i T x i hop
   split at h
   ·rename_i l' n' xs' kk j' hl hi
    split at h
    ·rename_i hn
     simp only [Option.some.injEq, Prod.mk.injEq] at h
     obtain ⟨rfl, rfl, rfl, rfl, rfl⟩ := h
     obtain ⟨h1, h2⟩ := aW ho
     exact ⟨o, h1, h2, bQ.indexAddr hop hl hi hn h0 hy, qR, rfl⟩
    ·cases h
   ·cases h
  ·cases h
 ·cases h
theorem q8 {α : Type} {n : Nat} {c : Cd α} {H : Hp} {p off oi : Nat} {xs : List α} {X : ar} (h : cp n c H p off = some xs) (ho : H[oi]? = some .hole) : cp n c (H.set oi X) p off = some xs ∧ p ≠ oi := by
 have hne : p ≠ oi := fun e => by
  subst e
  unfold cp fL at h
  rw [ho] at h
  cases h
 refine ⟨?_, hne⟩
 unfold cp fL at h ⊢
 rw [List.getElem?_set_ne (Ne.symm hne)]
 exact h
theorem OQk.jG {α : Type} {Q : St → Prop} (p : Option α) (S : Option α → St) (h0 : st = S p) (hN : p = none → OQk P ops k (S none) Q) (hS : ∀ i, p = some i → OQk P ops k (S (some i)) Q) : OQk P ops k st Q := by
 subst h0
 cases p with
 | none => exact hN rfl
 | some i => exact hS i rfl
end
def aP {α : Type} (enc : α → D) : Option α → D
 | none => .aL
 | some x => .aR (enc x).cells
end Go.Sh
namespace Go.Sh
section
variable {P : Program} {st : St} {ops : Array Oper} {k : Nat}
theorem k8 {o : Oper} {c : Call} {a : Act} {w : World} {x : Operand} {T KT ET : TypeId} {m : Option Nat} {l : Nat} (hop : o.op = .call c) (hc : c.callee = .builtin .len) (ha : c.args.toList = [x]) (ht : c.argTypes.toList = [T]) (hu : P.underlying T = some (.map KT ET))
  (hx : a.eval x = .map m) (hm : (m = none ∧ l = 0) ∨ ∃ kb ms clock, m = some kb ∧ w.heap[kb]? = some (.map ms clock) ∧ l = ms.size) : (execOp a.eval o).run P w = .ok (.value (goInt l)) w := by
 obtain ⟨callee, args, argTypes⟩ := c
 have ha2 : args = #[x] := by apply Array.ext'; simpa using ha
 have ht2 : argTypes = #[T] := by apply Array.ext'; simpa using ht
 subst ha2 ht2
 simp only at hc
 subst hc
 unfold execOp
 rw [hop]
 simp only [resolve, List.map_toArray, List.map_cons, List.map_nil, Sem.run_bind, Sem.run_pure, Result.andThen_ok, invoke, builtin, hx]
 rcases hm with ⟨rfl, rfl⟩ | ⟨kb, ms, clock, rfl, h1, rfl⟩
 ·simp [Builtin.len_, run_underlying hu]
 ·simp [Builtin.len_, run_underlying hu, jq h1]
def rU {K V : Type} [BEq K] (k : Kc K) (v : Cd V) (H : Hp) (m : Option Nat) : Option Int := (pL k v H m).map fun es => (es.length : Int)
theorem bQ.zm {K V : Type} [BEq K] {k : Kc K} {v : Cd V} {o : Oper} {c : Call} {T KT ET : TypeId} {x : Operand} {m : Option Nat} {q : Int} (hop : o.op = .call c) (hc : c.callee = .builtin .len) (ha : c.args.toList = [x]) (ht : c.argTypes.toList = [T]) (hT : P.underlying T = some (.map KT ET))
  (hx : bK st x = some (cM.enc m)) (hq : rU k v st.H m = some q) : bQ P st o (.d (.int .i64 q)) := by
 intro a w g hr
 have hm := kf hr hx
 obtain ⟨es, h1, rfl⟩ := Option.map_eq_some_iff.1 hq
 cases m with
 | none =>
  simp only [pL, Option.some.injEq] at h1
  subst h1
  exact ⟨_, BV.fQ .int, fun w' hup => k8 hop hc ha ht hT hm (.inl ⟨rfl, rfl⟩)⟩
 | some i =>
  obtain ⟨kb, e1, e2⟩ := hm
  obtain ⟨kb', ms, clock, f1, f2, f3, f4, f5, f6⟩ := hr.hp.2 i _ (oJ.1 h1)
  rw [f1] at e1; cases e1
  refine ⟨_, BV.fQ ?_, fun w' hup => k8 hop hc ha ht hT e2 (.inr ⟨_, _, _, rfl, hup _ _ f3, rfl⟩)⟩
  rw [show ms.size = es.length by simpa using f4]
  exact .int
def xJ (P : Program) (ops : Array Oper) (k : Nat) (st : St) : Option (Option Tmp × D × Hp) :=
 match dT ops k st with
 | some o => match o.op with
  | .call c => match c.callee, c.args.toList, c.argTypes.toList with
   | .builtin .len, [x], [T] => match P.underlying T with
    | some (.map _ _) => match bK st x with
     | some d => some (o.dst, d, st.H)
     | none => none
    | _ => none
   | _, _, _ => none
  | _ => none
 | none => none
theorem BAt.zm {K V : Type} [BEq K] {kc : Kc K} {v : Cd V} {d : Option Tmp} {mm : Option Nat} {q : Int} {H0 : Hp} (hq : rU kc v H0 mm = some q) (h : xJ P ops k st = some (d, cM.enc mm, H0)) : BAt P ops k st d (.d (.int .i64 q)) := by
 unfold xJ at h
 split at h
 ·rename_i o ho
  split at h
  ·rename_i c hop
   split at h
   ·rename_i x T hc ha ht
    split at h
    ·rename_i KT ET hT
     split at h
     ·rename_i dd h1
      simp only [Option.some.injEq, Prod.mk.injEq] at h
      obtain ⟨rfl, rfl, rfl⟩ := h
      obtain ⟨g1, g2⟩ := aW ho
      exact ⟨o, g1, g2, bQ.zm hop hc ha ht hT h1 hq, by simp [fP], rfl⟩
     ·cases h
    ·cases h
   ·cases h
  ·cases h
 ·cases h
def zU (P : Program) (ops : Array Oper) (k : Nat) (st : St) : Option (Nat × Nat × D × Hp) :=
 match dT ops k st with
 | some o => match o.op with
  | .store T x y => match kZ st x, bK st y with
   | some (i, off), some d => if (P.underlying T).isNone = false ∧ P.cellsOf T = 1 ∧ o.dst = none then some (i, off, d, st.H) else none
   | _, _ => none
  | _ => none
 | none => none
theorem OWk.CF {Q : St → Prop} {p : Option Nat} {i off : Nat} {H0 : Hp} (n : Nat) (H : List ar) (L : List Nat) (l : List (Nat × SV)) (hx : dA cP H0 i off p = some H) (h : zU P ops k st = some (i, off, cP.enc p, H0)) (hst : aV n L (st.hp H) = some (l, H))
  (hn : OWk P false ops (k + 1) (sp n l H) Q) : OWk P false ops k st Q := by
 unfold zU at h
 split at h
 ·rename_i o ho
  split at h
  ·rename_i T x y hop
   split at h
   ·rename_i i' off' d h1 h2
    split at h
    ·rename_i hc
     simp only [Option.some.injEq, Prod.mk.injEq] at h
     obtain ⟨rfl, rfl, rfl, rfl⟩ := h
     obtain ⟨g1, g2⟩ := aW ho
     exact OWk.heap n H L l g1 g2 (OpS.um hop hc.2.2 h1 h2 hc.1 (by rw [tI, hc.2.1]; rfl) hx) hst hn
    ·cases h
   ·cases h
  ·cases h
 ·cases h
end
end Go.Sh
namespace Go.Sh
section
variable {P : Program} {st : St} {ops : Array Oper} {k : Nat}
theorem cJ : ∀ _ : Bool, CFr (fun _ _ => True) := fun _ _ _ _ _ _ _ => trivial
theorem SW.y6 {id : Nat} {ll : List Oper} {Q : Exit → St → Prop} (n : Nat) (hn : (ll.length == n) = true) (hm : P.follows .mixedOrders = true) (h : ∀ l, OL P l (fun _ _ _ => True) ll.toArray n 0 true st (fun _ s => Q .normal s)) : SW P false (.region id ll.toArray true) st Q := by
 obtain rfl := beq_iff_eq.1 hn
 intro a w g hr
 have h1 := SWL.l8 (P := P) (l := w.heap.size) (C := fun _ _ _ => True) (b := true) (id := id) (Q := fun _ e s => Q e s) hm cJ (h w.heap.size) a w g hr trivial
 refine Code.wp_mono ?_ h1
 rintro e a' w' ⟨b', st', g', q, r, -, f⟩
 exact ⟨st', g', q, r, ⟨f.size, f.free, fun k b h1 h2 => f.out k b (fun e => by subst e; simp at h2) h1 h2, f.rho, (fun e => by cases e), (fun e => by cases e), (fun e => by cases e), f.os⟩⟩
theorem OL.case {l : Nat} {C : Bool → Gh → World → Prop} {b : Bool} {d m : Nat} {K : Bool → St → Prop} (c : Bool) (S : Bool → St) (h0 : st = S c) (hT : c = true → OL P l C ops d m b (S true) K) (hF : c = false → OL P l C ops d m b (S false) K) : OL P l C ops d m b st K := by
 subst h0
 cases c with
 | true => exact hT rfl
 | false => exact hF rfl
end
end Go.Sh
