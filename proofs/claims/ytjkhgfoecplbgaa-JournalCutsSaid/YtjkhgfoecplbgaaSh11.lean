/- A call of a pure function, met by its contract (OW.call). -/
import Derived.Test.YtjkhgfoecplbgaaSh10
set_option linter.all false
set_option autoImplicit true
set_option relaxedAutoImplicit true
namespace Go.Sh
set_option linter.unusedSimpArgs false

/-- No slice and no pointer in it: it reads alike whatever blocks change hands. -/
def flatD : D → Bool
  | .bool _ | .int _ _ | .str _ | .nilS | .nilIface | .nilFn | .nilPtr | .nilMap | .ptr _ _ | .map _ => true
  | .iface _ x => flatD x
  | _ => false

def flatSV : SV → Bool
  | .d x => flatD x
  | .tup vs => vs.all fun | .d x => flatD x | _ => false
  | _ => false

theorem Rd.flat {g g' : Gh} {w w' : World} (hρ : KeepR g g') {v : Value} {x : D} (h : Rd g w v x) (hf : flatD x = true) : Rd g' w' v x := by
  induction h with
  | bool => exact .bool
  | int => exact .int
  | str => exact .str
  | nilS => exact .nilS
  | nilIface => exact .nilIface
  | iface _ ih => exact .iface (ih hf)
  | nilFn => exact .nilFn
  | nilPtr => exact .nilPtr
  | ptr h => exact .ptr (hρ _ _ h)
  | nilMap => exact .nilMap
  | map h => exact .map (hρ _ _ h)
  | _ => cases hf

section
variable (P : Program)

/-- An argument as the callee gets it, and who lends it. -/
def argS (st : St) (T : TypeId) (x : Operand) : Option (SV × Option Loc) :=
  match x with
  | .tmp s => match st.tmps[s]? with
    | some (.d .nilS) => some (.d (.list (elemW P T) []), none)
    | some (.d x) => some (.d x, none)
    | some (.own n xs) => some (.d (.list n xs), some (.slot s))
    | some (.lent l n xs) => some (.d (.list n xs), some l)
    | some (.lptr l cs) => some (.d (.dptr cs), some l)
    | _ => none
  | x => match valD st x with
    | some .nilS => some (.d (.list (elemW P T) []), none)
    | some d => some (.d d, none)
    | none => none

/-- An argument whose list is handed over for good. -/
def giveS (st : St) (x : Operand) : Option (SV × Nat) :=
  match x with
  | .tmp s => match st.tmps[s]? with
    | some (.own n xs) => some (.own n xs, s)
    | _ => none
  | _ => none

/-- All arguments: 'tr': the places of those that are handed over; 'p': the callee's slot of the first. -/
def argsS (st : St) (tr : List Nat) (p : Nat) : List Operand → List TypeId → Option (List SV × List Loc × List (Nat × Nat))
  | [], _ => some ([], [], [])
  | x :: xs, ts =>
    if tr.contains p then
      match giveS st x, argsS st tr (p + 1) xs ts.tail with
      | some (s, t), some (ss, ls, gs) => some (s :: ss, ls, (t, p) :: gs)
      | _, _ => none
    else
      match argS P st (ts.headD 0) x, argsS st tr (p + 1) xs ts.tail with
      | some (s, none), some (ss, ls, gs) => some (s :: ss, ls, gs)
      | some (s, some l), some (ss, ls, gs) => some (s :: ss, l :: ls, gs)
      | _, _ => none

def isFn (f : FuncId) : Bool := match P.funcs[f]? with | some fn => fn.name != "runtime.NumGoroutine" && fn.body.isSome | none => false
end

/-- How the callee sees the owners. -/
def calleeOw (ls : List Loc) (gs : List (Nat × Nat)) : Own → Own
  | .free => .free
  | .out | .box _ => .out
  | .obj i => .obj i
  | .lst l => if ls.contains l then .free else
    match l with
    | .slot s => match gs.lookup s with | some p => .lst (.slot p) | none => .out
    | .hcell i j => .lst (.hcell i j)
    | _ => .out

/-- How the caller sees what the callee has left. -/
def backOw (t : Nat) : Own → Own
  | .free => .free
  | .lst (.slot 0) => .lst (.slot t)
  | .lst (.comp 0 j) => .lst (.comp t j)
  | _ => .lst .els

def afterOw (n : Nat) (ls : List Loc) (gs : List (Nat × Nat)) (t : Nat) (ow ow' : Nat → Own) (k : Nat) : Own :=
  if k < n then
    match ow k with
    | .lst (.slot s) => if ls.contains (.slot s) then .lst (.slot s) else match gs.lookup s with | some _ => backOw t (ow' k) | none => .lst (.slot s)
    | o => o
  else backOw t (ow' k)

/-- The slots of what was handed over are emptied. -/
def St.takes (st : St) : List (Nat × Nat) → St
  | [] => st
  | (s, _) :: gs => (((st.kill s).set s .undef)).takes gs

section
variable {P : Program} {pu : Bool} {ops : Array Oper} {rest : List Oper} {st : St} {Q : St → Prop}

@[simp] theorem St.takes_len (st : St) (gs : List (Nat × Nat)) : (st.takes gs).tmps.length = st.tmps.length := by
  induction gs generalizing st with
  | nil => rfl
  | cons p gs ih => obtain ⟨s, p⟩ := p; simp [St.takes, ih]
@[simp] theorem St.takes_H (st : St) (gs : List (Nat × Nat)) : (st.takes gs).H = st.H := by
  induction gs generalizing st with
  | nil => rfl
  | cons p gs ih => obtain ⟨s, p⟩ := p; simp [St.takes, ih]

/-- What is left in a slot: nothing, or what was there, if it is none of those handed over and does not mention one. -/
theorem St.takes_get {gs : List (Nat × Nat)} : ∀ {st : St} {t : Nat} {s : SV}, (st.takes gs).tmps[t]? = some s → s = .undef ∨ (st.tmps[t]? = some s ∧ ∀ p ∈ gs, t ≠ p.1 ∧ mention p.1 s = false) := by
  induction gs with
  | nil => intro st t s h; exact .inr ⟨h, by simp⟩
  | cons q gs ih =>
    intro st t s h
    obtain ⟨s0, p0⟩ := q
    simp only [St.takes] at h
    rcases ih h with h | ⟨h1, h2⟩
    · exact .inl h
    · by_cases ht : t = s0
      · subst ht
        simp only [St.set] at h1
        have hlt := get_lt h1
        simp only [List.length_set] at hlt
        rw [List.getElem?_set_self hlt] at h1
        cases h1
        exact .inl rfl
      · simp only [St.set, List.getElem?_set_ne (Ne.symm ht)] at h1
        rcases St.kill_get h1 with h1 | ⟨h1, h3⟩
        · exact .inl h1
        · exact .inr ⟨h1, fun p hp => by
            rcases List.mem_cons.1 hp with rfl | hp
            · exact ⟨ht, h3⟩
            · exact h2 p hp⟩

theorem giveS_sound {a : Act} {w : World} {g : Gh} (h : Rel st a w g) {x : Operand} {s : SV} {t : Nat} (hv : giveS st x = some (s, t)) :
    ∃ n xs, s = .own n xs ∧ x = .tmp t ∧ ROwn g w (.slot t) (a.eval x) n xs := by
  unfold giveS at hv
  split at hv
  · split at hv
    · rename_i hs
      cases hv
      exact ⟨_, _, rfl, rfl, h.rs hs⟩
    · cases hv
  · cases hv

theorem calleeOw_free {ls : List Loc} {gs : List (Nat × Nat)} : calleeOw ls gs .free = .free := rfl

theorem RList.lend {g : Gh} {w : World} {ls : List Loc} {gs : List (Nat × Nat)} {l : Loc} {v : Value} {n : Nat} {xs : List D} (hl : l ∈ ls) (h : RList g w (some l) v n xs) : Rd (g.ren (calleeOw ls gs)) w v (.list n xs) :=
  RList.free rfl (by simp [calleeOw, hl]) h

theorem RPtr.lend {g : Gh} {w : World} {ls : List Loc} {gs : List (Nat × Nat)} {l : Loc} {v : Value} {cs : List D} (hl : l ∈ ls) (h : RPtr g w (some l) v cs) : Rd (g.ren (calleeOw ls gs)) w v (.dptr cs) := by
  obtain ⟨k, off, c, T, fz, us, hv, hk, hb, hc, hr⟩ := h
  refine RPtr.toRd ⟨k, off, c, T, fz, us, hv, okL_free.2 ?_, hb, hc, fun j y hy => (hr j y hy).keep (Keep.ren rfl) (fun _ _ h => h)⟩
  simp only [Gh.ren]
  cases ho : g.ow k <;> simp only [ho, okL] at hk
  · rfl
  · cases hk; simp [calleeOw, hl]

theorem argS_sound {a : Act} {w : World} {g : Gh} (h : Rel st a w g) {T : TypeId} {x : Operand} {s : SV} {l : Option Loc} (hv : argS P st T x = some (s, l)) {ls : List Loc} {gs : List (Nat × Nat)} (hl : ∀ l', l = some l' → l' ∈ ls) (o : Loc) :
    RC (g.ren (calleeOw ls gs)) w o (a.eval x) s := by
  have kp : ∀ {v : Value} {d : D}, Rd g w v d → Rd (g.ren (calleeOw ls gs)) w v d := fun hr => hr.keep (Keep.ren rfl) (fun _ _ h => h)
  have nil : ∀ {v : Value} {n : Nat}, Rd g w v .nilS → Rd (g.ren (calleeOw ls gs)) w v (.list n []) := fun hr => by
    obtain ⟨a', rfl⟩ := Rd.nilS_inv hr
    exact .list0
  unfold argS at hv
  split at hv
  · split at hv
    · rename_i hs; cases hv; exact nil (h.rs hs)
    · rename_i hne hs; cases hv; exact kp (h.rs hs)
    · rename_i hs; cases hv; exact (ROwn.toLent (h.rs hs)).lend (hl _ rfl)
    · rename_i hs; cases hv; exact RList.lend (hl _ rfl) (h.rs hs)
    · rename_i hs; cases hv; exact RPtr.lend (hl _ rfl) (h.rs hs)
    · cases hv
  · split at hv
    · rename_i hs; cases hv; exact nil (valD_d h hs)
    · rename_i hne hs; cases hv; exact kp (valD_d h hs)
    · cases hv

theorem argsS_sound {a : Act} {w : World} {g : Gh} (h : Rel st a w g) {tr : List Nat} {ls : List Loc} {gs : List (Nat × Nat)} (hgs : ∀ s p, (s, p) ∈ gs → gs.lookup s = some p ∧ Loc.slot s ∉ ls) :
    ∀ {xs : List Operand} {ts : List TypeId} {p : Nat} {ss : List SV} {ls' : List Loc} {gs' : List (Nat × Nat)}, argsS P st tr p xs ts = some (ss, ls', gs') → (∀ l ∈ ls', l ∈ ls) → (∀ q ∈ gs', q ∈ gs) →
    xs.length = ss.length ∧ ∀ (j : Nat) (s : SV), ss[j]? = some s → ∃ o, xs[j]? = some o ∧ RC (g.ren (calleeOw ls gs)) w (.slot (p + j)) (a.eval o) s
  | [], ts, p, ss, ls', gs', hv, _, _ => by simp [argsS] at hv; obtain ⟨rfl, -⟩ := hv; simp
  | x :: xs, ts, p, ss, ls', gs', hv, hl, hg => by
    simp only [argsS] at hv
    split at hv
    · split at hv
      · rename_i s t ss1 ls1 gs1 h1 h2
        cases hv
        obtain ⟨hlen, hr⟩ := argsS_sound h hgs h2 hl (fun q hq => hg q (List.mem_cons_of_mem _ hq))
        refine ⟨by simp [hlen], fun j s' hj => ?_⟩
        cases j with
        | zero =>
          simp only [List.getElem?_cons_zero, Option.some.injEq] at hj
          subst hj
          obtain ⟨n, ys, rfl, rfl, hO⟩ := giveS_sound h h1
          obtain ⟨g1, g2⟩ := hgs t p (hg _ (by simp))
          exact ⟨_, by simp, ROwn.ren rfl (by simp [calleeOw, g1, g2]) hO⟩
        | succ j =>
          obtain ⟨o, e1, e2⟩ := hr j s' (by simpa using hj)
          exact ⟨o, by simpa using e1, by rw [show p + (j + 1) = p + 1 + j by omega]; exact e2⟩
      · cases hv
    · split at hv
      · rename_i s ss1 ls1 gs1 h1 h2
        cases hv
        obtain ⟨hlen, hr⟩ := argsS_sound h hgs h2 hl hg
        refine ⟨by simp [hlen], fun j s' hj => ?_⟩
        cases j with
        | zero =>
          simp only [List.getElem?_cons_zero, Option.some.injEq] at hj
          subst hj
          exact ⟨x, by simp, argS_sound h h1 (by simp) _⟩
        | succ j =>
          obtain ⟨o, e1, e2⟩ := hr j s' (by simpa using hj)
          exact ⟨o, by simpa using e1, by rw [show p + (j + 1) = p + 1 + j by omega]; exact e2⟩
      · rename_i s l ss1 ls1 gs1 h1 h2
        cases hv
        obtain ⟨hlen, hr⟩ := argsS_sound h hgs h2 (fun l' hl' => hl l' (List.mem_cons_of_mem _ hl')) hg
        refine ⟨by simp [hlen], fun j s' hj => ?_⟩
        cases j with
        | zero =>
          simp only [List.getElem?_cons_zero, Option.some.injEq] at hj
          subst hj
          exact ⟨x, by simp, argS_sound h h1 (fun l' e => by cases e; exact hl _ (by simp)) _⟩
        | succ j =>
          obtain ⟨o, e1, e2⟩ := hr j s' (by simpa using hj)
          exact ⟨o, by simpa using e1, by rw [show p + (j + 1) = p + 1 + j by omega]; exact e2⟩
      · cases hv

/-- The places that are handed over are each handed over once, and lent to nobody. -/
def giveOk (ls : List Loc) (gs : List (Nat × Nat)) : Bool := gs.all fun q => gs.lookup q.1 == some q.2 && !ls.contains (.slot q.1)

theorem giveOk_spec {ls : List Loc} {gs : List (Nat × Nat)} (h : giveOk ls gs = true) : ∀ s p, (s, p) ∈ gs → gs.lookup s = some p ∧ Loc.slot s ∉ ls := by
  intro s p hm
  unfold giveOk at h
  rw [List.all_eq_true] at h
  have := h (s, p) hm
  simpa using this

theorem Keep.of_eq {o : Own} {g g' : Gh} {w w' : World} (h : ∀ k b, g.ow k = o → w.heap[k]? = some b → g'.ow k = o ∧ w'.heap[k]? = some b) : Keep o g w g' w' := h

theorem lookup_none {gs : List (Nat × Nat)} {s : Nat} (h : ∀ p ∈ gs, s ≠ p.1) : gs.lookup s = none := by
  induction gs with
  | nil => rfl
  | cons q gs ih =>
    have h1 := h q (by simp)
    simp only [List.lookup]
    rw [show (s == q.1) = false by simpa using h1]
    exact ih fun p hp => h p (by simp [hp])

/-- What the callee has left, as the caller sees it. -/
theorem after_keep {g g' : Gh} {w w' : World} {ls : List Loc} {gs : List (Nat × Nat)} {t : Nat} (hf : Fr true (g.ren (calleeOw ls gs)) w g' w') {o : Own} (ho : ∀ s, o = .lst (.slot s) → Loc.slot s ∈ ls ∨ gs.lookup s = none) :
    Keep o g w ⟨afterOw w.heap.size ls gs t g.ow g'.ow, g'.ρ⟩ w' := by
  intro k b hk hb
  have hlt : k < w.heap.size := (Array.getElem?_eq_some_iff.1 hb).1
  have hcal : ∀ o', calleeOw ls gs o = o' → (g.ren (calleeOw ls gs)).ow k = o' := fun o' h => by simp [Gh.ren, hk, h]
  have hblk : w'.heap[k]? = some b := by
    cases o with
    | free => exact (hf.free k b (hcal _ rfl) hb).2
    | out => exact (hf.out k b (hcal _ rfl) hb).2
    | box i => exact (hf.out k b (hcal _ rfl) hb).2
    | obj i => exact (hf.obj rfl i k b (hcal _ rfl) hb).2
    | lst l =>
      by_cases hl : l ∈ ls
      · exact (hf.free k b (hcal _ (by simp [calleeOw, hl])) hb).2
      · cases l with
        | slot s =>
          rcases ho s rfl with h | h
          · exact absurd h hl
          · exact (hf.out k b (hcal _ (by simp [calleeOw, hl, h])) hb).2
        | hcell i j => exact (hf.hcell rfl i j k b (hcal _ (by simp [calleeOw, hl])) hb).2
        | comp i j => exact (hf.out k b (hcal _ (by simp [calleeOw, hl])) hb).2
        | cell i j => exact (hf.out k b (hcal _ (by simp [calleeOw, hl])) hb).2
        | els => exact (hf.out k b (hcal _ (by simp [calleeOw, hl])) hb).2
  refine ⟨?_, hblk⟩
  simp only [afterOw, hlt, if_true, hk]
  cases o with
  | lst l =>
    cases l with
    | slot s =>
      simp only
      split
      · rfl
      · rename_i hn
        rcases ho s rfl with h | h
        · simp [h] at hn
        · rw [h]
    | _ => rfl
  | _ => rfl


/-- The arguments of a call, the callee, who lends, what is handed over. -/
structure CallS where
  f : FuncId
  args : List SV
  ls : List Loc
  gs : List (Nat × Nat)

def callS (P : Program) (st : St) (tr : List Nat) (c : Call) : Option CallS :=
  match c.callee with
  | .value fo => match valD st fo with
    | some (.fn (.func f) first caps) => match argsS P st tr first.length c.args.toList c.argTypes.toList with
      | some (ss, ls, gs) => if giveOk ls gs && isFn P f then some ⟨f, first.map .d ++ ss ++ caps.map .d, ls, gs⟩ else none
      | none => none
    | _ => none
  | _ => none

/-- The result of a call as the slot gets it. -/
def resD : SV → Bool
  | .d _ | .own _ _ => true
  | .tup vs => vs.all fun | .d _ | .own _ _ => true | _ => false
  | _ => false

theorem run_call {c : Call} {fo : Operand} {f : FuncId} {a : Act} {first caps : Array Value} {ty : TypeId} (hc : c.callee = .value fo) (hf : a.eval fo = .func (.func f) first caps) (hi : isFn P f = true) (w : World) :
    (do let d ← resolve a.eval c ty; invoke d.target d.args : Sem Next).run P w = .ok (.enter f (first ++ c.args.map a.eval ++ caps)) w := by
  unfold isFn at hi
  split at hi
  · rename_i fn hfn
    simp only [Bool.and_eq_true, bne_iff_ne] at hi
    obtain ⟨h1, h2⟩ := hi
    have h2' : fn.body.isNone = false := by cases hb : fn.body <;> simp [hb] at h2 ⊢
    simp only [resolve, hc, Deferred.ofValue, hf, Sem.run_bind, Sem.run_pure, Result.andThen_ok, invoke, callFunc, run_program, hfn]
    rw [if_neg (by simpa using h1), h2']
    rfl
  · cases hi

theorem RC.back {g g' : Gh} {w : World} {o o' : Loc} {v : Value} {s : SV} (h0 : Keep .free g w g' w) (h1 : ∀ k b, g.ow k = .lst o → w.heap[k]? = some b → g'.ow k = .lst o') (hρ : KeepR g g') (h : RC g w o v s) : RC g' w o' v s := by
  cases s with
  | d x => exact Rd.keep h0 hρ h
  | own n xs =>
    rcases h with h | ⟨k, off, cap, c, T, us, hv, hk, hb, hl, hz, hn, hc, hr⟩
    · exact .inl h
    · exact .inr ⟨k, off, cap, c, T, us, hv, h1 k _ hk hb, hb, hl, hz, hn, hc, fun i x hx j y hy => (hr i x hx j y hy).keep h0 hρ⟩
  | undef => trivial
  | _ => exact h.elim

/-- The shadow heap as the callee sees it: what is lent out of it is plain data. -/
def lendCell (ls : List Loc) (i j : Nat) : SV → SV
  | .own n xs => if ls.contains (.hcell i j) then .d (.list n xs) else .own n xs
  | s => s
def lendObj (ls : List Loc) (i : Nat) : SObj → SObj
  | .cells cs => .cells (cs.mapIdx (lendCell ls i))
  | o => o

theorem RH.lend {g : Gh} {w : World} {ls : List Loc} {gs : List (Nat × Nat)} {H : List SObj} (h : RH g w H) : RH (g.ren (calleeOw ls gs)) w (H.mapIdx (lendObj ls)) := by
  refine ⟨by simpa [Gh.ren] using h.1, fun i ob hi => ?_⟩
  simp only [List.getElem?_mapIdx, Option.map_eq_some_iff] at hi
  obtain ⟨ob', hi, rfl⟩ := hi
  have hro := h.2 i ob' hi
  cases ob' with
  | cells cs =>
    obtain ⟨kk, cc, T, r1, r2, r3, r4, r5⟩ := hro
    refine ⟨kk, cc, T, r1, by simp [Gh.ren, r2, calleeOw], r3, by simpa using r4, fun j s hj => ?_⟩
    simp only [List.getElem?_mapIdx, Option.map_eq_some_iff] at hj
    obtain ⟨s', hj, rfl⟩ := hj
    obtain ⟨u, u1, u2, u3⟩ := r5 j s' hj
    refine ⟨u, u1, ?_, by cases s' <;> first | exact u3 | exact u2.elim⟩
    cases s' with
    | d x => exact Rd.keep (Keep.ren rfl) (fun _ _ h => h) u2
    | own n xs =>
      simp only [lendCell]
      split
      · rename_i hl
        exact RList.lend (by simpa using hl) (ROwn.toLent u2)
      · rename_i hl
        refine ROwn.ren rfl ?_ u2
        have hl' : ls.contains (.hcell i j) = false := Bool.eq_false_iff.2 hl
        simp only [calleeOw, hl']
        rfl
    | undef => trivial
    | _ => exact u2.elim
  | map es =>
    obtain ⟨kk, ms, clock, r1, r2, r3, r4, r6, r5⟩ := hro
    exact ⟨kk, ms, clock, r1, by simp [Gh.ren, r2, calleeOw], r3, r4, r6, fun j p hj => let ⟨m, h1, h2, h3⟩ := r5 j p hj; ⟨m, h1, h2.keep (Keep.ren rfl) (fun _ _ h => h), h3.keep (Keep.ren rfl) (fun _ _ h => h)⟩⟩
  | hole => trivial
  | iter kb clock =>
    obtain ⟨k, hr, ho, hb⟩ := hro
    exact ⟨k, hr, by simp [Gh.ren, ho, calleeOw], hb⟩
  | mapX kb clock ms es =>
    obtain ⟨hr, ho, hb, hs, hbo, hc⟩ := hro
    exact ⟨hr, by simp [Gh.ren, ho, calleeOw], hb, hs, hbo, fun j p hj => let ⟨m, h1, h2, h3⟩ := hc j p hj; ⟨m, h1, h2.keep (Keep.ren rfl) (fun _ _ h => h), h3.keep (Keep.ren rfl) (fun _ _ h => h)⟩⟩

/-- What was not handed over is as the callee found it. -/
theorem callee_kept {g g' : Gh} {w w' : World} {ls : List Loc} {gs : List (Nat × Nat)} (hf : Fr true (g.ren (calleeOw ls gs)) w g' w') {k : Nat} {b : Obj} (hb : w.heap[k]? = some b)
    (hn : ∀ s, g.ow k = .lst (.slot s) → Loc.slot s ∈ ls ∨ gs.lookup s = none) :
    g'.ow k = calleeOw ls gs (g.ow k) ∧ (∀ l, calleeOw ls gs (g.ow k) = .lst l → ∃ i j, l = .hcell i j) ∧ (calleeOw ls gs (g.ow k) = .free → g.ow k = .free ∨ ls ≠ []) := by
  have key : ∀ o', calleeOw ls gs (g.ow k) = o' → (o' = .free ∨ o' = .out ∨ (∃ i, o' = .obj i) ∨ ∃ i j, o' = .lst (.hcell i j)) → g'.ow k = o' := fun o' h1 h2 => by
    have h1' : (g.ren (calleeOw ls gs)).ow k = o' := h1
    rcases h2 with rfl | rfl | ⟨i, rfl⟩ | ⟨i, j, rfl⟩
    · exact (hf.free k b h1' hb).1
    · exact (hf.out k b h1' hb).1
    · exact (hf.obj rfl i k b h1' hb).1
    · exact (hf.hcell rfl i j k b h1' hb).1
  cases ho : g.ow k with
  | free => rw [ho] at key; exact ⟨key _ rfl (.inl rfl), by simp [calleeOw], by simp⟩
  | out => rw [ho] at key; exact ⟨key _ rfl (.inr (.inl rfl)), by simp [calleeOw], by simp [calleeOw]⟩
  | box t => rw [ho] at key; exact ⟨key _ rfl (.inr (.inl rfl)), by simp [calleeOw], by simp [calleeOw]⟩
  | obj i => rw [ho] at key; exact ⟨key _ rfl (.inr (.inr (.inl ⟨i, rfl⟩))), by simp [calleeOw], by simp [calleeOw]⟩
  | lst l =>
    rw [ho] at key
    by_cases hl : l ∈ ls
    · have e : calleeOw ls gs (.lst l) = .free := by simp [calleeOw, hl]
      rw [e] at key ⊢
      exact ⟨key _ rfl (.inl rfl), by simp, fun _ => .inr (List.ne_nil_of_mem hl)⟩
    · have out : ∀ (e : calleeOw ls gs (.lst l) = .out), g'.ow k = calleeOw ls gs (.lst l) ∧ (∀ l', calleeOw ls gs (.lst l) = .lst l' → ∃ i j, l' = .hcell i j) ∧ (calleeOw ls gs (.lst l) = .free → Own.lst l = .free ∨ ls ≠ []) := fun e => by
        rw [e] at key ⊢
        exact ⟨key _ rfl (.inr (.inl rfl)), by simp, by simp⟩
      cases l with
      | slot s =>
        rcases hn s ho with h | h
        · exact absurd h hl
        · exact out (by simp [calleeOw, hl, h])
      | hcell i j =>
        have e : calleeOw ls gs (.lst (.hcell i j)) = .lst (.hcell i j) := by simp [calleeOw, hl]
        rw [e] at key ⊢
        exact ⟨key _ rfl (.inr (.inr (.inr ⟨i, j, rfl⟩))), by simp, by simp⟩
      | comp i j => exact out (by simp [calleeOw, hl])
      | cell i j => exact out (by simp [calleeOw, hl])
      | els => exact out (by simp [calleeOw, hl])

/-- The callee's own tags, as the caller's. -/
theorem after_tag {g g' : Gh} {w w' : World} {ls : List Loc} {gs : List (Nat × Nat)} {t : Nat} (hf : Fr true (g.ren (calleeOw ls gs)) w g' w') {k : Nat} {l : Loc} (hl : (∀ i j, l ≠ .hcell i j)) (hk : g'.ow k = .lst l) :
    afterOw w.heap.size ls gs t g.ow g'.ow k = backOw t (.lst l) := by
  simp only [afterOw]
  split
  · rename_i hlt
    obtain ⟨b, hb⟩ : ∃ b, w.heap[k]? = some b := ⟨w.heap[k], by simp [hlt]⟩
    by_cases hg : ∃ s, g.ow k = .lst (.slot s) ∧ Loc.slot s ∉ ls ∧ gs.lookup s ≠ none
    · obtain ⟨s, h1, h2, h3⟩ := hg
      rw [h1]
      simp only
      have h2' : ls.contains (.slot s) = false := by simpa using h2
      rw [h2']
      cases hlk : gs.lookup s with
      | none => exact absurd hlk h3
      | some p => simp [hk]
    · have := callee_kept hf hb (fun s hs => by
        by_cases h1 : Loc.slot s ∈ ls
        · exact .inl h1
        · by_cases h2 : gs.lookup s = none
          · exact .inr h2
          · exact absurd ⟨s, hs, h1, h2⟩ hg)
      rw [hk] at this
      obtain ⟨i, j, e⟩ := this.2.1 l this.1.symm
      exact absurd e (hl i j)
  · rw [hk]

theorem after_free {g g' : Gh} {w w' : World} {gs : List (Nat × Nat)} {t : Nat} (hf : Fr true (g.ren (calleeOw [] gs)) w g' w') : Keep .free g' w' ⟨afterOw w.heap.size [] gs t g.ow g'.ow, g'.ρ⟩ w' := by
  intro k b hk hb
  refine ⟨?_, hb⟩
  simp only [afterOw]
  split
  · rename_i hlt
    obtain ⟨b', hb'⟩ : ∃ b, w.heap[k]? = some b := ⟨w.heap[k], by simp [hlt]⟩
    by_cases hg : ∃ s, g.ow k = .lst (.slot s) ∧ gs.lookup s ≠ none
    · obtain ⟨s, h1, h3⟩ := hg
      rw [h1]
      simp only [List.contains_nil, Bool.false_eq_true, if_false]
      cases hlk : gs.lookup s with
      | none => exact absurd hlk h3
      | some p => simp [hk, backOw]
    · have := callee_kept hf hb' (fun s hs => .inr (by
          by_cases h2 : gs.lookup s = none
          · exact h2
          · exact absurd ⟨s, hs, h2⟩ hg))
      rw [hk] at this
      rcases this.2.2 this.1.symm with h | h
      · rw [h]
      · exact absurd rfl h
  · rw [hk]; rfl

theorem St.takes_big {gs : List (Nat × Nat)} : ∀ {st : St} {t : Nat} {x : SV}, st.tmps[t]? = some x → bigK x ≠ 0 → (∀ p ∈ gs, t ≠ p.1) → (st.takes gs).tmps[t]? = some x := by
  induction gs with
  | nil => intro st t x h _ _; exact h
  | cons q gs ih =>
    intro st t x h hb hne
    obtain ⟨s0, p0⟩ := q
    simp only [St.takes]
    refine ih ?_ hb (fun p hp => hne p (List.mem_cons_of_mem _ hp))
    have : t ≠ s0 := hne (s0, p0) (by simp)
    simp [St.set, St.kill, List.getElem?_set_ne (Ne.symm this), h, bigK_mention hb]

theorem St.takes_box {gs : List (Nat × Nat)} {st : St} {t : Nat} {cs : List SV} (h : st.tmps[t]? = some (.box cs)) (hne : ∀ p ∈ gs, t ≠ p.1) : (st.takes gs).tmps[t]? = some (.box cs) := St.takes_big h (by simp [bigK]) hne

theorem uses_slot {t s0 : Nat} {s : SV} (ho : uses t s (.lst (.slot s0))) : s0 = t ∨ mention s0 s = true := by
  cases s <;> simp [uses, mention] at ho ⊢
  · exact ho
  · rw [← ho]; simp
  · rw [← ho]; simp
  · exact ho

/-- **A CALL OF A PURE FUNCTION, MET BY ITS CONTRACT.** 'tr': which arguments are handed over for good. -/
theorem OW.call {o : Oper} {c : Call} (tr : List Nat) {k : CallS} {r : SV} (hw : wantS ops st o = some true) (hop : o.op = .call c) (hc : callS P st tr c = some k) (hp : PC P k.f k.args r)
    (hr : resD r = true) (hlend : k.ls.isEmpty = true ∨ flatSV r = true) (h : OW P pu ops rest ((st.takes k.gs).put o.dst r) Q) : OW P pu ops (o :: rest) st Q := by
  intro a w g hrel Qc hq
  unfold wpList
  rw [wantS_sound hrel hw, if_pos rfl]
  refine .inl ?_
  unfold callS at hc
  split at hc
  · rename_i fo hcallee
    split at hc
    · rename_i f first caps hfo
      split at hc
      · rename_i ss ls gs hargs
        split at hc
        · rename_i hok
          cases hc
          rw [Bool.and_eq_true] at hok
          obtain ⟨hgive, hfn⟩ := hok
          have hgs := giveOk_spec hgive
          -- the callee, and what it captured
          have hrf := valD_d hrel hfo
          obtain ⟨vf, vc, hev, lf, lc, rf, rc⟩ : ∃ vf vc : Array Value, a.eval fo = .func (.func f) vf vc ∧ vf.size = first.length ∧ vc.size = caps.length ∧
              (∀ (j : Nat) (y : D), first[j]? = some y → ∃ u, vf[j]? = some u ∧ Rd g w u y) ∧ (∀ (j : Nat) (y : D), caps[j]? = some y → ∃ u, vc[j]? = some u ∧ Rd g w u y) := by
            generalize a.eval fo = v at hrf
            cases hrf with
            | fn hl1 hl2 us1 us2 hc1 hr1 hc2 hr2 => exact ⟨_, _, rfl, hl1, hl2, fun j y hj => ⟨us1 j, hc1 j y hj, hr1 j y hj⟩, fun j y hj => ⟨us2 j, hc2 j y hj, hr2 j y hj⟩⟩
          obtain ⟨la, ra⟩ := argsS_sound hrel hgs hargs (fun _ h => h) (fun _ h => h)
          have hexec : (execOp a.eval o).run P w = .ok (.enter f (vf ++ c.args.map a.eval ++ vc)) w := by
            unfold execOp
            rw [hop]
            exact run_call hcallee hev hfn w
          unfold Oper.wp
          rw [hexec, Oper.upon_enter]
          -- the arguments, read by the callee
          have hRA : RArgs (g.ren (calleeOw ls gs)) w (vf ++ c.args.map a.eval ++ vc) (first.map .d ++ ss ++ caps.map .d) := by
            have hla : (c.args.map a.eval).size = ss.length := by rw [← la]; simp
            have hla' : c.args.size = ss.length := by rw [← la]; simp
            refine ⟨by simp [lf, lc, ← la], fun j s hj => ?_⟩
            have kp : ∀ {v : Value} {d : D}, Rd g w v d → Rd (g.ren (calleeOw ls gs)) w v d := fun hr => hr.keep (Keep.ren rfl) (fun _ _ h => h)
            by_cases j1 : j < first.length
            · rw [List.append_assoc, List.getElem?_append_left (by simpa using j1), List.getElem?_map] at hj
              simp only [Option.map_eq_some_iff] at hj
              obtain ⟨d, hd, rfl⟩ := hj
              obtain ⟨u, e1, e2⟩ := rf j d hd
              exact ⟨u, by rw [Array.append_assoc, Array.getElem?_append_left (by omega)]; exact e1, kp e2⟩
            · by_cases j2 : j < first.length + ss.length
              · rw [List.getElem?_append_left (by simp; omega), List.getElem?_append_right (by simp; omega)] at hj
                simp only [List.length_map] at hj
                obtain ⟨x, e1, e2⟩ := ra _ s hj
                refine ⟨a.eval x, ?_, by rw [show first.length + (j - first.length) = j by omega] at e2; exact e2⟩
                rw [Array.getElem?_append_left (by simp [lf]; omega), Array.getElem?_append_right (by omega), Array.getElem?_map, lf]
                rw [Array.getElem?_toList] at e1
                rw [e1]; rfl
              · rw [List.getElem?_append_right (by simp; omega), List.getElem?_map] at hj
                simp only [Option.map_eq_some_iff, List.length_append, List.length_map] at hj
                obtain ⟨d, hd, rfl⟩ := hj
                obtain ⟨u, e1, e2⟩ := rc _ d hd
                refine ⟨u, ?_, kp e2⟩
                rw [Array.getElem?_append_right (by simp [lf]; omega)]
                simpa [lf, ← la] using e1
          refine (hp _ w (g.ren (calleeOw ls gs)) _ hRA (hrel.hp.lend (ls := ls) (gs := gs))).mono fun e w' hh => ?_
          obtain ⟨v, g', rfl, hres, -, hf⟩ := hh
          have hρ : g'.ρ = g.ρ := hf.len rfl
          have hρ' : KeepR g ⟨afterOw w.heap.size ls gs (o.dst.getD 0) g.ow g'.ow, g'.ρ⟩ := fun i k h => by rw [hρ]; exact h
          have hkp := fun o' ho' => after_keep (t := o.dst.getD 0) hf (o := o') ho'
          have hfr : Fr pu g w ⟨afterOw w.heap.size ls gs (o.dst.getD 0) g.ow g'.ow, g'.ρ⟩ w' :=
            ⟨hf.size, hkp _ (by simp), hkp _ (by simp), hρ', fun _ i => hkp _ (by simp), fun _ i j => hkp _ (by simp), fun _ => hρ, hf.os⟩
          refine h (a.put o.dst v) w' _ ?_ Qc fun st2 a2 w2 g2 q2 r2 f2 => hq st2 a2 w2 g2 q2 r2 (hfr.trans f2)
          refine Rel.step hrel (by rw [put_size, St.put_len, St.takes_len]; exact hrel.len) (by rw [put_defers]; exact hrel.def0) hρ' (fun t s hs => ?_) ?_
          · by_cases hd : o.dst = some t
            · -- the slot of the result
              rw [hd] at hs ⊢
              obtain ⟨rfl, hlt⟩ := St.put_get_same hs
              rw [St.takes_len] at hlt
              refine .inr (.inl ?_)
              rw [valOf_put_same (by rw [hrel.len]; exact hlt)]
              simp only [Option.getD_some]
              have tag : ∀ l, (∀ i j, l ≠ .hcell i j) → ∀ k b, g'.ow k = .lst l → w'.heap[k]? = some b → (⟨afterOw w.heap.size ls gs t g.ow g'.ow, g'.ρ⟩ : Gh).ow k = backOw t (.lst l) := fun l hl k b hk _ => after_tag hf hl hk
              rcases hlend with hl | hflat
              · have hls : ls = [] := by simpa using hl
                subst hls
                have h0 := after_free (t := t) hf
                cases hrr : s with
                | d x => rw [hrr] at hres; exact Rd.keep h0 (fun _ _ h => h) (hres : Rd g' w' v x)
                | own n xs =>
                  rw [hrr] at hres
                  exact (RC.back h0 (tag (.slot 0) (by simp)) (fun _ _ h => h) (hres : RC g' w' (.slot 0) v (.own n xs)) : RC _ _ (.slot t) v (.own n xs))
                | tup vs =>
                  rw [hrr] at hres hr
                  obtain ⟨us, e1, e2, e3⟩ := hres
                  refine ⟨us, e1, e2, fun j s' hj => ?_⟩
                  obtain ⟨u, f1, f2⟩ := e3 j s' hj
                  exact ⟨u, f1, RC.back h0 (tag (.comp 0 j) (by simp)) (fun _ _ h => h) f2⟩
                | _ => rw [hrr] at hr; simp [resD] at hr
              · cases hrr : s with
                | d x => rw [hrr] at hres hflat; show Rd _ w' v x; refine Rd.flat (g := g') (w := w') ?_ hres hflat; exact fun _ _ h => h
                | tup vs =>
                  rw [hrr] at hres hflat
                  obtain ⟨us, e1, e2, e3⟩ := hres
                  refine ⟨us, e1, e2, fun j s' hj => ?_⟩
                  obtain ⟨u, f1, f2⟩ := e3 j s' hj
                  simp only [flatSV, List.all_eq_true] at hflat
                  have := hflat s' (List.mem_iff_getElem?.2 ⟨j, hj⟩)
                  cases s' with
                  | d x => refine ⟨u, f1, ?_⟩; show Rd _ w' u x; refine Rd.flat (g := g') (w := w') ?_ f2 this; exact fun _ _ h => h
                  | _ => simp at this
                | _ => rw [hrr] at hflat; simp [flatSV] at hflat
            · -- another slot
              have hput : s = .undef ∨ ((st.takes gs).tmps[t]? = some s ∧ ∀ t0 old, o.dst = some t0 → (st.takes gs).tmps[t0]? = some old → heavy old = true → mention t0 s = false) := by
                cases hdst : o.dst with
                | none => rw [hdst] at hs; exact .inr ⟨hs, by simp⟩
                | some t0 =>
                  rw [hdst] at hs hd
                  rcases St.put_get (fun e => hd (by rw [e])) hs with h | ⟨h1, h2⟩
                  · exact .inl h
                  · exact .inr ⟨h1, fun t1 old e => by cases e; exact h2 old⟩
              rcases hput with rfl | ⟨hs1, hs2⟩
              · exact .inl rfl
              · rcases St.takes_get hs1 with rfl | ⟨hs3, hs4⟩
                · exact .inl rfl
                · refine .inr (.inr ⟨hs3, valOf_put hd, fun o' ho' => hkp o' fun s0 e => .inr (lookup_none fun p hp => ?_), fun s0 e => ?_⟩)
                  · subst e
                    rcases uses_slot ho' with rfl | hm
                    · exact (hs4 p hp).1
                    · rintro rfl
                      rw [(hs4 p hp).2] at hm
                      cases hm
                  · obtain ⟨x0, hx0, hb0⟩ := dep_big (hrel.tmp t _ hs3) e
                    have hne : ∀ p ∈ gs, s0 ≠ p.1 := fun p hp e2 => by
                      have := (hs4 p hp).2
                      rw [← e2, dep_mention e] at this
                      cases this
                    have hbox : ∀ x, st.tmps[s0]? = some x → bigK x ≠ 0 → (st.takes gs).tmps[s0]? = some x := fun x h hb => St.takes_big h hb hne
                    have hd0 : o.dst ≠ some s0 := fun e2 => by
                      have := hs2 s0 _ e2 (hbox x0 hx0 hb0) (bigK_heavy hb0)
                      rw [dep_mention e] at this
                      cases this
                    exact ⟨valOf_put hd0, fun x hx hb => ⟨x, St.put_big (hbox x hx hb) hb hd0, rfl⟩⟩
          · rw [St.put_H, St.takes_H]
            refine hrel.hp.keep (fun o' ho' => hkp o' fun s e => ?_) hρ' (by rw [hρ])
            subst e
            exact ho'.elim
        · cases hc
      · cases hc
    · cases hc
  · cases hc
end
end Go.Sh
