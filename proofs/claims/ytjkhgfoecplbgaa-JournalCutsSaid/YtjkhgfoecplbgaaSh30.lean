/- 'for k, v := range m' over a map of the shadow heap: whatever order the entries come in. -/
import Derived.Test.YtjkhgfoecplbgaaSh29
import Derived.Maps.RangeRun
set_option linter.all false
set_option autoImplicit true
set_option relaxedAutoImplicit true
set_option linter.unusedVariables false
set_option linter.unusedSimpArgs false
namespace Go.Sh

/-! ## The plain side -/

/-- A loop over entries, one after the other. -/
def foldI {γ ε β : Type} (step : γ → ε → Option (γ ⊕ β)) : γ → List ε → Option (γ ⊕ β)
  | x, [] => some (.inl x)
  | x, y :: r => match step x y with
    | some (.inl x') => foldI step x' r
    | some (.inr b) => some (.inr b)
    | none => none

open Classical in
/-- What all orders of a list agree on. -/
noncomputable def allP {α ρ : Type} (l : List α) (f : List α → Option ρ) : Option ρ :=
  if h : ∃ r, ∀ p : List α, p.Perm l → f p = some r then some (Classical.choose h) else none

theorem allP_inv {α ρ : Type} {l : List α} {f : List α → Option ρ} {r : ρ} (h : allP l f = some r) : ∀ p : List α, p.Perm l → f p = some r := by
  unfold allP at h
  split at h
  · rename_i hx
    cases h
    exact Classical.choose_spec hx
  · cases h

theorem allP_eq {α ρ : Type} {l : List α} {f : List α → Option ρ} {r : ρ} (h : ∀ p : List α, p.Perm l → f p = some r) : allP l f = some r := by
  have hx : ∃ r, ∀ p : List α, p.Perm l → f p = some r := ⟨r, h⟩
  unfold allP
  rw [dif_pos hx]
  have h1 := Classical.choose_spec hx l (List.Perm.refl _)
  rw [h l (List.Perm.refl _)] at h1
  exact h1.symm

structure Rng (K V : Type) where
  es : List (K × V)
  H : Hp
  it : Nat
  mi : Nat

/-- A map is taken out of the heap to go through it; the iterator has a place too. -/
def hRange {K V : Type} [BEq K] (k : Kc K) (v : Cd V) (H : Hp) (m : Option Nat) : Option (Rng K V) :=
  m.bind fun i => (hMap k v H (some i)).map fun es => ⟨es, H.set i .hole ++ [.hole], H.length, i⟩

def holes {K V : Type} (q : Rng K V) (H : Hp) : Bool := (match H[q.it]? with | some .hole => true | _ => false) && (match H[q.mi]? with | some .hole => true | _ => false)

/-- The map is put back. -/
def hBack {K V : Type} [BEq K] (k : Kc K) (v : Cd V) (q : Rng K V) (H : Hp) : Option Hp := if holes q H then some (H.set q.mi (.map (q.es.map (encE k v)))) else none

def hIt {K V : Type} [BEq K] (k : Kc K) (v : Cd V) (q : Rng K V) (kb clock : Nat) (ms : Array MapEntry) : Hp := (q.H.set q.mi (.mapX kb clock ms (q.es.map (encE k v)))).set q.it (.iter kb clock)

section
variable {P : Program} {st : St} {ops : Array Oper} {k : Nat} {Q : St → Prop} (n : Nat) (H : List SObj) {K V : Type} [BEq K]

def rgAt (P : Program) (ops : Array Oper) (k : Nat) (st : St) : Option (Option Tmp × D × Hp) :=
  match opAt ops k st with
  | some o => match o.op with
    | .range T x => match P.underlying T, valD st x with
      | some (.map _ _), some dm => some (o.dst, dm, st.H)
      | _, _ => none
    | _ => none
  | none => none

theorem OWk.mrange {kc : Kc K} {v : Cd V} {mm : Option Nat} {q : Rng K V} {H0 : Hp} {d : Option Tmp} (hx : hRange kc v H0 mm = some q) (h : rgAt P ops k st = some (d, cM.enc mm, H0)) (L : List Nat) (l : List (Nat × SV))
    (hst : ∀ H1, pickR n L ((st.hp H1).put d (.d (.ptr q.it 0))) = some (l, H1))
    (hn : ∀ kb clock ms, OWk P false ops (k + 1) (sp n l (hIt kc v q kb clock ms)) Q) : OWk P false ops k st Q := by
  unfold rgAt at h
  split at h
  · rename_i o ho
    obtain ⟨g1, g2⟩ := opAt_inv ho
    split at h
    · rename_i T x hop
      split at h
      · rename_i KT ET dm hT hv
        simp only [Option.some.injEq, Prod.mk.injEq] at h
        obtain ⟨rfl, rfl, rfl⟩ := h
        simp only [hRange, Option.bind_eq_some_iff, Option.map_eq_some_iff] at hx
        obtain ⟨i, rfl, es, hm, rfl⟩ := hx
        unfold OWk at hn ⊢
        rw [drop_cons g1]
        intro a w g hr Qc hq
        unfold wpList
        rw [wantS_sound hr g2, if_pos rfl]
        refine .inl ?_
        obtain ⟨kb, e1, e2⟩ := mapOf_sound hr hv
        have hH := hMap_eq.1 hm
        obtain ⟨kb', ms, clock, f1, f2, f3, f4, f5, f6⟩ := hr.hp.2 i _ hH
        have hkb : kb = kb' := by rw [f1] at e1; exact (Option.some.inj e1).symm
        subst hkb
        have hrun : (execOp a.eval o).run P w = .ok (.value (.pointer (some ⟨w.heap.size, 0, none⟩))) (w.alloc (.mapIter (some kb) clock #[] clock)) := by
          unfold execOp; rw [hop]
          simp only [e2, Instr.range, Sem.run_bind, run_underlying hT, Result.andThen_ok, run_getMap f3, Sem.run_pure, run_newObj]
          rfl
        unfold Oper.wp
        rw [hrun, Oper.upon_value]
        have hlen := get_lt hH
        have hrel : Rel (st.hp (hIt kc v ⟨es, st.H.set i .hole ++ [.hole], st.H.length, i⟩ kb clock ms)) a (w.alloc (.mapIter (some kb) clock #[] clock)) (g.new w.heap.size st.H.length) := by
          refine Rel.step hr hr.len hr.def0 KeepR.new (fun t s hs => .inr (.inr ⟨hs, rfl, fun o' ho' => Keep.new, fun s' _ => ⟨rfl, fun x hx _ => ⟨x, hx, rfl⟩⟩⟩)) ⟨by simp [St.hp, hIt, Gh.new, hr.hp.1], fun i' o' hi' => ?_⟩
          simp only [St.hp, hIt] at hi'
          by_cases h1 : i' = st.H.length
          · subst h1
            rw [List.getElem?_set_self (by simp)] at hi'
            cases hi'
            exact ⟨w.heap.size, new_rho hr.hp _, new_ow _ _, heap_alloc _ _⟩
          · rw [List.getElem?_set_ne (Ne.symm h1)] at hi'
            by_cases h2 : i' = i
            · subst h2
              rw [List.getElem?_set_self (by simp; omega)] at hi'
              cases hi'
              obtain ⟨a1, a2⟩ := Keep.new (o' := .obj i') (g := g) (w := w) (ob := .mapIter (some kb) clock #[] clock) (i := st.H.length) kb _ f2 f3
              refine ⟨KeepR.new _ _ f1, a1, a2, by simpa using f4, f5, fun j p hj => ?_⟩
              obtain ⟨m, m1, m2, m3⟩ := f6 j p hj
              exact ⟨m, m1, Rd.keep Keep.new KeepR.new m2, Rd.keep Keep.new KeepR.new m3⟩
            · rw [List.getElem?_set_ne (Ne.symm h2)] at hi'
              by_cases h3 : i' < st.H.length
              · rw [List.getElem?_append_left (by simpa using h3), List.getElem?_set_ne (Ne.symm h2)] at hi'
                exact (hr.hp.2 i' o' hi').keepI Keep.new Keep.new (fun _ => Keep.new) KeepR.new
              · have := get_lt hi'
                simp at this
                omega
        refine hn kb clock ms _ _ _ ((hrel.putLight o.dst (s := .d (.ptr st.H.length 0)) (v := .pointer (some ⟨w.heap.size, 0, none⟩)) (.ptr (new_rho hr.hp _))).keepR (keepR_of_pick (hst _))) Qc fun st' a' w' g' q r f => hq st' a' w' g' q r (Fr.new.trans f)
      · cases h
    · cases h
  · cases h

/-- The entries that are to come. -/
def toCome {ε : Type} (ms : List MapEntry) (es : List ε) (seen : Array Nat) : List ε := ((ms.zip es).filter fun p => !seen.contains p.1.born).map (·.2)

theorem toCome_step {ε : Type} : ∀ (ms : List MapEntry) (es : List ε) (seen : Array Nat) (e : MapEntry), (ms.map (·.born)).Nodup → ms.length = es.length → e ∈ ms → seen.contains e.born = false →
    ∃ (j : Nat) (y : ε), ms[j]? = some e ∧ es[j]? = some y ∧ (toCome ms es seen).Perm (y :: toCome ms es (seen.push e.born))
  | [], _, _, e, _, _, h, _ => by simp at h
  | m :: ms, [], seen, e, _, h, _, _ => by simp at h
  | m :: ms, y :: es, seen, e, hn, hl, he, hs => by
    simp only [List.map_cons, List.nodup_cons] at hn
    by_cases h : m = e
    · subst h
      refine ⟨0, y, rfl, rfl, ?_⟩
      have hrest : toCome ms es (seen.push m.born) = toCome ms es seen := by
        unfold toCome
        congr 1
        apply List.filter_congr
        intro p hp
        have hne : p.1.born ≠ m.born := fun h => hn.1 (List.mem_map.2 ⟨p.1, (List.of_mem_zip hp).1, h⟩)
        simp [hne]
      have h1 : toCome (m :: ms) (y :: es) seen = y :: toCome ms es seen := by
        unfold toCome
        rw [List.zip_cons_cons, List.filter_cons_of_pos (by simp only [hs]; rfl)]
        rfl
      have h2 : toCome (m :: ms) (y :: es) (seen.push m.born) = toCome ms es (seen.push m.born) := by
        unfold toCome
        rw [List.zip_cons_cons, List.filter_cons_of_neg (by simp)]
      rw [h1, h2, hrest]
    · have he' : e ∈ ms := by
        rcases List.mem_cons.1 he with h' | h'
        · exact absurd h'.symm h
        · exact h'
      obtain ⟨j, z, j1, j2, j3⟩ := toCome_step ms es seen e hn.2 (by simpa using hl) he' hs
      refine ⟨j + 1, z, by simpa using j1, by simpa using j2, ?_⟩
      have hne : m.born ≠ e.born := fun h => hn.1 (List.mem_map.2 ⟨e, he', h.symm⟩)
      by_cases hm : seen.contains m.born = true
      · have h1 : toCome (m :: ms) (y :: es) seen = toCome ms es seen := by
          unfold toCome
          rw [List.zip_cons_cons, List.filter_cons_of_neg (by simp only [hm]; simp)]
        have h2 : toCome (m :: ms) (y :: es) (seen.push e.born) = toCome ms es (seen.push e.born) := by
          unfold toCome
          have : (seen.push e.born).contains m.born = true := by simp at hm ⊢; exact .inl hm
          rw [List.zip_cons_cons, List.filter_cons_of_neg (by simp only [this]; simp)]
        rw [h1, h2]; exact j3
      · have hm' : seen.contains m.born = false := by simpa using hm
        have h1 : toCome (m :: ms) (y :: es) seen = y :: toCome ms es seen := by
          unfold toCome
          rw [List.zip_cons_cons, List.filter_cons_of_pos (by simp only [hm']; rfl)]
          rfl
        have h2 : toCome (m :: ms) (y :: es) (seen.push e.born) = y :: toCome ms es (seen.push e.born) := by
          unfold toCome
          have : (seen.push e.born).contains m.born = false := by simp at hm' ⊢; exact ⟨hm', hne⟩
          rw [List.zip_cons_cons, List.filter_cons_of_pos (by simp only [this]; rfl)]
          rfl
        rw [h1, h2]
        exact (j3.cons y).trans (.swap _ _ _)

theorem toCome_empty {ε : Type} {ms : Array MapEntry} {es : List ε} {seen : Array Nat} (h : (leftOf ms seen).size = 0) : toCome ms.toList es seen = [] := by
  unfold toCome
  rw [List.map_eq_nil_iff, List.filter_eq_nil_iff]
  intro p hp
  have h0 : leftOf ms seen = #[] := Array.eq_empty_of_size_eq_zero h
  unfold leftOf at h0
  rw [Array.filter_eq_empty_iff] at h0
  exact h0 p.1 (by simpa using (List.of_mem_zip hp).1)

theorem wpList_val {o : Oper} {rest : List Oper} {a : Act} {w w' : World} {v : Value} {Q : Exit → Act → World → Prop} (hg : o.guard = none) (hrun : (execOp a.eval o).run P w = .ok (.value v) w') (h : wpList P ops Q rest (a.put o.dst v) w') : wpList P ops Q (o :: rest) a w := by
  unfold wpList
  rw [show Region.wanted o (yielded ops a.tmps) = true by unfold Region.wanted; rw [hg], if_pos rfl]
  refine .inl ?_
  unfold Oper.wp
  rw [hrun, Oper.upon_value]
  exact h

theorem spL_len : ∀ (n : Nat) (l : List (Nat × SV)) (t : Nat), (spL l n t).length = n
  | 0, _, _ => rfl
  | n + 1, [], t => by simp [spL, spL_len n]
  | n + 1, (t', s) :: r, t => by simp only [spL]; split <;> simp [spL_len n]

/-- Blocks of two owners are lent to nobody for a while. -/
def Gh.lock (g : Gh) (r kb : Nat) : Gh := ⟨fun b => if b = r ∨ b = kb then .out else g.ow b, g.ρ⟩
def Gh.unlock (g : Gh) (r kb it mi : Nat) : Gh := ⟨fun b => if b = r then .obj it else if b = kb then .obj mi else g.ow b, g.ρ⟩

theorem RO.hole_of {g : Gh} {w : World} {i : Nat} {o : SObj} (h : (match o with | .hole => true | _ => false) = true) : RO g w i o := by
  cases o <;> first | trivial | cases h

theorem holes_inv {q : Rng K V} {H : Hp} (h : holes q H = true) : H[q.it]? = some .hole ∧ H[q.mi]? = some .hole := by
  unfold holes at h
  rw [Bool.and_eq_true] at h
  constructor
  · have := h.1
    split at this
    · assumption
    · cases this
  · have := h.2
    split at this
    · assumption
    · cases this

/-- **A LOOP OVER A MAP**: whatever order its entries come in, the loop ends as 'foldI' tells. -/
theorem SW.rng {γ β : Type} {kc : Kc K} {v : Cd V} {mm : Option Nat} {q : Rng K V} {H0 : Hp} {kb clock : Nat} {ms : Array MapEntry} {B B2 i1 i2 : Nat} {o1 o2 o3 : Oper} {eops : List Oper} {Y : Code} {Q : Exit → St → Prop} {ti tn tc te : Tmp}
    (L : List Nat) (l : γ → List (Nat × SV)) (Hf : γ → Hp) (step : γ → K × V → Option (γ ⊕ β)) (x0 : γ) (C : γ ⊕ β → Prop) (E : β → Exit → St → Prop)
    (hx : hRange kc v H0 mm = some q) (hit : ∀ p : List (K × V), p.Perm q.es → ∃ z, foldI step x0 p = some z ∧ C z) (h0 : pickR n L st = some (l x0, hIt kc v q kb clock ms)) (hH0 : Hf x0 = q.H)
    (ho1 : o1.op = .next (.tmp ti) false) (hd1 : o1.dst = some tn) (hg1 : o1.guard = none) (ho2 : o2.op = .extract (.tmp tn) 0) (hd2 : o2.dst = some tc) (hg2 : o2.guard = none) (ho3 : o3.op = .entry (.tmp ti)) (hd3 : o3.dst = some te) (hg3 : o3.guard = none)
    (hsz : (decide (tn < n) && (decide (tc < n) && (decide (tn ≠ ti) && decide (tc ≠ ti)))) = true) (hs : ∀ x, valD (sp n (l x) (Hf x)) (.tmp ti) = some (.ptr q.it 0)) (hk : ∀ x, pickR n L (((sp n (l x) (Hf x)).put (some tn) .undef).put (some tc) .undef) = some (l x, Hf x))
    (round : ∀ x y o, holes q (Hf x) = true → step x y = some o → OWk P false (o3 :: eops).toArray 1 ((sp n (l x) (Hf x)).put (some te) (.tup [.d (kc.c.enc y.1), .d (v.enc y.2)]))
      (thenS (fun s1 => SW P false Y s1 (blockS B2 (thenS (fun s' => ∃ x', o = .inl x' ∧ holes q (Hf x') = true ∧ pickR n L s' = some (l x', Hf x')) (fun e s' => ∃ b, o = .inr b ∧ E b e s')))) (blockS B2 (thenS (fun s' => ∃ x', o = .inl x' ∧ holes q (Hf x') = true ∧ pickR n L s' = some (l x', Hf x')) (fun e s' => ∃ b, o = .inr b ∧ E b e s'))) .normal))
    (aft : ∀ x, C (.inl x) → ∃ H2, hBack kc v q (Hf x) = some H2 ∧ Q (.exit B) (sp n (l x) H2)) (aftE : ∀ b e s, C (.inr b) → E b e s → Q e s) :
    SW P false (.loop (.seq (.region i1 #[o1, o2] false) (.seq (.cond (.tmp tc) .skip (.exit B)) (.block B2 (.seq (.region i2 (o3 :: eops).toArray false) Y))))) st Q := by
  simp only [Bool.and_eq_true, decide_eq_true_eq] at hsz
  obtain ⟨hn1, hn2, hne1, hne2⟩ := hsz
  refine SW.keep L (keepR_of_pick h0) ?_
  intro a w g hr
  simp only [hRange, Option.bind_eq_some_iff, Option.map_eq_some_iff] at hx
  obtain ⟨mi, rfl, es, hm, rfl⟩ := hx
  have hmi := get_lt (hMap_eq.1 hm)
  -- the iterator and the map, in memory
  have hI := hr.hp.2 H0.length (.iter kb clock) (by simp [sp, hIt, hH0])
  obtain ⟨r, r1, r2, r3⟩ := hI
  have hM := hr.hp.2 mi (.mapX kb clock ms (es.map (encE kc v))) (by
    simp only [sp, hIt]
    rw [List.getElem?_set_ne (by omega), List.getElem?_set_self (by simp; omega)])
  obtain ⟨b1, b2, b3, b4, b5, b6⟩ := hM
  have hrk : r ≠ kb := by
    rintro rfl
    rw [r3] at b3; cases b3
  have hρlen := hr.hp.1
  -- the state at the first head
  have hr0 : Rel (sp n (l x0) (Hf x0)) a w g := by
    refine Rel.step hr hr.len hr.def0 (fun _ _ h => h) (fun t s hs => .inr (.inr ⟨hs, rfl, fun o' ho' => Keep.refl _ _ _, fun s' _ => ⟨rfl, fun x hx _ => ⟨x, hx, rfl⟩⟩⟩)) ⟨by rw [hρlen]; simp [sp, hIt, hH0], fun i' o' hi' => ?_⟩
    rw [hH0] at hi'
    simp only [sp] at hi'
    by_cases h1 : i' = H0.length
    · subst h1
      rw [List.getElem?_append_right (by simp)] at hi'
      simp at hi'
      subst hi'
      trivial
    · by_cases h2 : i' = mi
      · subst h2
        rw [List.getElem?_append_left (by simpa using hmi), List.getElem?_set_self hmi] at hi'
        cases hi'
        trivial
      · exact hr.hp.2 i' o' (by simp only [sp, hIt]; rw [List.getElem?_set_ne (Ne.symm h1), List.getElem?_set_ne (Ne.symm h2)]; exact hi')
  have hbl : ms.toList.length = es.length := by simpa using b4
  refine wp_loop_ghost (α := γ × Gh × Array Nat × List (K × V) × Nat) (x := (x0, g, #[], es, clock))
    (fun x a' w' => Rel (sp n (l x.1) (Hf x.1)) a' w' x.2.1 ∧ Fr false g w x.2.1 w' ∧ holes ⟨es, H0.set mi .hole ++ [.hole], H0.length, mi⟩ (Hf x.1) = true ∧ x.2.1.ρ[H0.length]? = some r ∧ x.2.1.ow r = .obj H0.length ∧ w'.heap[r]? = some (.mapIter (some kb) clock x.2.2.1 x.2.2.2.2) ∧ clock ≤ x.2.2.2.2 ∧
      x.2.1.ρ[mi]? = some kb ∧ x.2.1.ow kb = .obj mi ∧ w'.heap[kb]? = some (.map ms clock) ∧ (∀ (j : Nat) (p : K × V), es[j]? = some p → ∃ m, ms[j]? = some m ∧ Rd x.2.1 w' m.key (kc.c.enc p.1) ∧ Rd x.2.1 w' m.val (v.enc p.2)) ∧
      x.2.2.2.1 = toCome ms.toList es x.2.2.1 ∧ ∀ p : List (K × V), p.Perm x.2.2.2.1 → ∃ z, foldI step x.1 p = some z ∧ C z)
    (fun x => x.2.2.2.1.length) ⟨hr0, Fr.refl _ _ _, ?_, r1, r2, r3, Nat.le_refl _, b1, b2, b3, ?_, ?_, hit⟩ ?_
  · rw [hH0]
    unfold holes
    rw [List.getElem?_append_right (by simp), List.getElem?_append_left (by simpa using hmi), List.getElem?_set_self hmi]
    simp
  · intro j p hj
    exact b6 j (encE kc v p) (by simp [hj])
  · unfold toCome
    rw [List.filter_eq_self.2 (by simp)]
    have : (ms.toList.zip es).map (·.2) = es := by rw [List.map_snd_zip]; omega
    exact this.symm
  · rintro ⟨x, g1, seen, todo, last⟩ a1 w1 ⟨hrel, hfr, hho, e1, e2, e3, e4, e5, e6, e7, e8, e9, e10⟩
    simp only at hrel hfr hho e1 e2 e3 e4 e5 e6 e7 e8 e9 e10 ⊢
    have hev : a1.eval (.tmp ti) = .pointer (some ⟨r, 0, none⟩) := by
      have := valD_d hrel (hs x)
      generalize a1.eval (.tmp ti) = u at this
      cases this with
      | ptr h => rw [e1] at h; cases h; rfl
    have hlen := hrel.len
    have hlen' : a1.tmps.size = n := by rw [hlen]; simp [sp, spL_len]
    have hold : ∀ x ∈ ms.toList, x.born < clock := b5.1
    refine wp_seq (wp_region_lit (l := [o1, o2]) ?_)
    rcases run_next_at (P := P) w1 o1.type r kb clock last seen ms clock e3 e7 hold e4 with ⟨hleft, hrun⟩ | ⟨e, he, w2, hw2, hrun⟩
    · -- nothing is left
      have htodo : todo = [] := by rw [e9, toCome_empty hleft]
      subst htodo
      obtain ⟨z, z1, z2⟩ := e10 [] (List.Perm.refl _)
      simp only [foldI, Option.some.injEq] at z1
      subst z1
      obtain ⟨H2, hb, hQ⟩ := aft x z2
      refine wpList_val hg1 (v := .tuple #[.bool false]) (w' := w1) ?_ ?_
      · unfold execOp; rw [ho1]; simp only [hev, Sem.run_bind, hrun, Result.andThen_ok, Sem.run_pure]
      refine wpList_val hg2 (v := .bool false) (w' := w1) ?_ ?_
      · unfold execOp; rw [ho2, hd1]
        have : (a1.put (some tn) (.tuple #[.bool false])).eval (.tmp tn) = .tuple #[.bool false] := valOf_put_same (by rw [hlen']; exact hn1)
        simp only [this, Instr.extract, Sem.run_bind]
        rfl
      rw [hd1, hd2]
      refine wp_seq (wp_cond_false ?_ (wp_exit ?_))
      · exact valOf_put_same (by rw [put_size, hlen']; exact hn2)
      have hrel2 := ((hrel.putLight (some tn) (v := .tuple #[.bool false]) (s := .undef) trivial).putLight (some tc) (v := .bool false) (s := .undef) trivial).keepR (keepR_of_pick (hk x))
      simp only [hBack] at hb
      rw [if_pos hho] at hb
      cases hb
      refine ⟨sp n (l x) _, g1, hQ, ?_, hfr⟩
      have hh := holes_inv hho
      refine Rel.step hrel2 hrel2.len hrel2.def0 (fun _ _ h => h) (fun t s hs => .inr (.inr ⟨hs, rfl, fun o' ho' => Keep.refl _ _ _, fun s' _ => ⟨rfl, fun x hx _ => ⟨x, hx, rfl⟩⟩⟩)) ⟨by rw [hrel2.hp.1]; simp [sp], fun i' o' hi' => ?_⟩
      simp only [sp] at hi'
      by_cases h2 : i' = mi
      · subst h2
        rw [List.getElem?_set_self (get_lt hh.2)] at hi'
        cases hi'
        refine ⟨kb, ms, clock, e5, e6, e7, by simpa using b4, b5, fun j p hj => ?_⟩
        simp only [List.getElem?_map, Option.map_eq_some_iff] at hj
        obtain ⟨p', hp', rfl⟩ := hj
        exact e8 j p' hp'
      · rw [List.getElem?_set_ne (Ne.symm h2)] at hi'
        exact hrel2.hp.2 i' o' hi'
    · -- one more
      have hem : e ∈ ms.toList ∧ seen.contains e.born = false := by
        unfold leftOf at he
        simp at he
        exact ⟨by simpa using he.1, by simpa using he.2⟩
      obtain ⟨j, y, j1, j2, j3⟩ := toCome_step ms.toList es seen e b5.2 hbl hem.1 hem.2
      obtain ⟨m, m1, m2, m3⟩ := e8 j y j2
      have hme : m = e := by
        have j1' : ms[j]? = some e := by simpa using j1
        rw [m1] at j1'; exact Option.some.inj j1'
      subst hme
      let w3 := ChangeMaps.setBlock w2 r (.mapIter (some kb) clock (seen.push m.born) clock)
      have hw2h : w2.heap = w1.heap := by rcases hw2 with rfl | rfl <;> rfl
      have hos3 : SameOs w1 w3 := by
        have : SameOs w1 w2 := by rcases hw2 with rfl | rfl <;> exact ⟨rfl, rfl⟩
        exact this.trans ⟨rfl, rfl⟩
      have hw3 : ∀ k', k' ≠ r → w3.heap[k']? = w1.heap[k']? := fun k' h => by simp [w3, ChangeMaps.setBlock, hw2h, Array.getElem?_setIfInBounds_ne (Ne.symm h)]
      have hw3r : w3.heap[r]? = some (.mapIter (some kb) clock (seen.push m.born) clock) := by
        have := arr_lt e3
        simp [w3, ChangeMaps.setBlock, hw2h, this]
      have hw3s : w3.heap.size = w1.heap.size := by simp [w3, ChangeMaps.setBlock, hw2h]
      have hh := holes_inv hho
      -- the body's ghosts
      let gB := g1.lock r kb
      have kB : ∀ o', o' ≠ .obj H0.length → o' ≠ .obj mi → Keep o' g1 w1 gB w3 := fun o' h1 h2 k' b hk hb' => by
        have hr' : k' ≠ r := by rintro rfl; exact h1 (hk.symm.trans e2)
        have hk' : k' ≠ kb := by rintro rfl; exact h2 (hk.symm.trans e6)
        exact ⟨by simp [gB, Gh.lock, hr', hk', hk], by rw [hw3 k' hr']; exact hb'⟩
      have hrelB : Rel (sp n (l x) (Hf x)) a1 w3 gB := by
        refine Rel.step hrel hrel.len hrel.def0 (fun _ _ h => h) (fun t s hs => .inr (.inr ⟨hs, rfl, fun o' ho' => kB o' (fun e => uses_obj (e ▸ ho')) (fun e => uses_obj (e ▸ ho')), fun s' _ => ⟨rfl, fun x hx _ => ⟨x, hx, rfl⟩⟩⟩)) ⟨hrel.hp.1, fun i' o' hi' => ?_⟩
        simp only [sp] at hi'
        by_cases h1 : i' = H0.length
        · subst h1; rw [hh.1] at hi'; cases hi'; trivial
        · by_cases h2 : i' = mi
          · subst h2; rw [hh.2] at hi'; cases hi'; trivial
          · exact (hrel.hp.2 i' o' hi').keepI (kB _ (by simp) (by simp)) (kB _ (by simpa using h1) (by simpa using h2)) (fun j => kB _ (by simp) (by simp)) (fun _ _ h => h)
      refine wpList_val hg1 (v := .tuple #[.bool true, m.key, m.val]) (w' := w3) ?_ ?_
      · unfold execOp; rw [ho1]; simp only [hev, Sem.run_bind, hrun, Result.andThen_ok, Sem.run_pure]; rfl
      refine wpList_val hg2 (v := .bool true) (w' := w3) ?_ ?_
      · unfold execOp; rw [ho2, hd1]
        have : (a1.put (some tn) (.tuple #[.bool true, m.key, m.val])).eval (.tmp tn) = .tuple #[.bool true, m.key, m.val] := valOf_put_same (by rw [hlen']; exact hn1)
        simp only [this, Instr.extract, Sem.run_bind]
        rfl
      rw [hd1, hd2]
      generalize ha2 : (a1.put (some tn) (.tuple #[.bool true, m.key, m.val])).put (some tc) (.bool true) = a2
      have hrel2 : Rel (sp n (l x) (Hf x)) a2 w3 gB := by
        subst ha2
        exact ((hrelB.putLight (some tn) (v := .tuple #[.bool true, m.key, m.val]) (s := .undef) trivial).putLight (some tc) (v := .bool true) (s := .undef) trivial).keepR (keepR_of_pick (hk x))
      refine wp_seq (wp_cond_true ?_ (wp_skip ?_))
      · subst ha2; exact valOf_put_same (by rw [put_size, hlen']; exact hn2)
      -- the rest to come
      have hperm : todo.Perm (y :: toCome ms.toList es (seen.push m.born)) := by rw [e9]; exact j3
      obtain ⟨o, ho, hnext⟩ : ∃ o, step x y = some o ∧ ((∃ x', o = .inl x' ∧ ∀ p : List (K × V), p.Perm (toCome ms.toList es (seen.push m.born)) → ∃ z, foldI step x' p = some z ∧ C z) ∨ ∃ b, o = .inr b ∧ C (.inr b)) := by
        obtain ⟨z, z1, z2⟩ := e10 (y :: toCome ms.toList es (seen.push m.born)) hperm.symm
        simp only [foldI] at z1
        cases hst : step x y with
        | none => rw [hst] at z1; cases z1
        | some o =>
          rw [hst] at z1
          cases o with
          | inl x' =>
            refine ⟨_, rfl, .inl ⟨x', rfl, fun p hp => ?_⟩⟩
            obtain ⟨z', y1, y2⟩ := e10 (y :: p) (hperm.trans (hp.symm.cons y)).symm
            simp only [foldI, hst] at y1
            exact ⟨z', y1, y2⟩
          | inr b => cases z1; exact ⟨_, rfl, .inr ⟨b, rfl, z2⟩⟩
      have hev2 : a2.eval (.tmp ti) = .pointer (some ⟨r, 0, none⟩) := by
        subst ha2
        rw [eval_put_other (by simpa using Ne.symm hne2), eval_put_other (by simpa using Ne.symm hne1)]
        exact hev
      have hkb3 : w3.heap[kb]? = some (.map ms clock) := by rw [hw3 kb (Ne.symm hrk)]; exact e7
      have hrunE := run_entry_at (P := P) w3 r kb clock seen ms clock m hw3r hkb3 hem.1 b5.2
      have hrdB : ∀ {u : Value} {d : D}, Rd g1 w1 u d → Rd gB w3 u d := fun h => Rd.keep (kB _ (by simp) (by simp)) (fun _ _ h => h) h
      refine wp_block (wp_seq (wp_region_lit (l := o3 :: eops) ?_))
      refine wpList_val hg3 (v := .tuple #[m.key, m.val]) (w' := w3) ?_ ?_
      · unfold execOp; rw [ho3]; simp only [hev2, Sem.run_bind, hrunE, Result.andThen_ok, Sem.run_pure]
      rw [hd3]
      have hrel3 := hrel2.putLight (some te) (v := .tuple #[m.key, m.val]) (s := .tup [.d (kc.c.enc y.1), .d (v.enc y.2)]) ⟨#[m.key, m.val], rfl, rfl, fun j s hj => by
        match j, hj with
        | 0, hj => simp at hj; exact ⟨m.key, _, rfl, hj.symm, hrdB m2⟩
        | 1, hj => simp at hj; exact ⟨m.val, _, rfl, hj.symm, hrdB m3⟩
        | j + 2, hj => simp at hj⟩
      refine round x y o hho ho _ w3 gB hrel3 _ fun s1 a3 w4 g4 hq4 hrel4 hfr4 => ?_
      refine Code.wp_mono (fun ex a5 w5 hh5 => ?_) (hq4 a3 w4 g4 hrel4)
      obtain ⟨s5, g5, q5, rel5, fr5⟩ := hh5
      have frB : Fr false gB w3 g5 w5 := hfr4.trans fr5
      -- back to our own ghosts
      let g6 := g5.unlock r kb H0.length mi
      have hrB : gB.ow r = .out := by simp [gB, Gh.lock]
      have hkB : gB.ow kb = .out := by simp [gB, Gh.lock]
      obtain ⟨hr5, hr5'⟩ := frB.out r _ hrB hw3r
      obtain ⟨hk5, hk5'⟩ := frB.out kb _ hkB hkb3
      have k6 : ∀ o', o' ≠ .out → Keep o' g5 w5 g6 w5 := fun o' h1 k' b hk hb' => by
        have hr' : k' ≠ r := by rintro rfl; exact h1 (hk.symm.trans hr5)
        have hk' : k' ≠ kb := by rintro rfl; exact h1 (hk.symm.trans hk5)
        exact ⟨by simp [g6, Gh.unlock, hr', hk', hk], hb'⟩
      have rel6 : Rel s5 a5 w5 g6 := by
        refine Rel.step rel5 rel5.len rel5.def0 (fun _ _ h => h) (fun t s hs => .inr (.inr ⟨hs, rfl, fun o' ho' => k6 o' (fun e => by subst e; cases s <;> simp [uses] at ho'), fun s' _ => ⟨rfl, fun x hx _ => ⟨x, hx, rfl⟩⟩⟩)) ⟨rel5.hp.1, fun i' o' hi' => ?_⟩
        exact (rel5.hp.2 i' o' hi').keepI (k6 _ (by simp)) (k6 _ (by simp)) (fun j => k6 _ (by simp)) (fun _ _ h => h)
      have fr6 : Fr false g1 w1 g6 w5 := by
        refine ⟨by have := frB.size; omega, ?_, ?_, fun i' k' h => frB.rho i' k' h, nofun, nofun, nofun, hos3.trans frB.os⟩
        · exact ((kB .free (by simp) (by simp)).trans frB.free).trans (k6 _ (by simp))
        · intro k' b hk hb'
          have hr' : k' ≠ r := by rintro rfl; rw [e2] at hk; cases hk
          have hk' : k' ≠ kb := by rintro rfl; rw [e6] at hk; cases hk
          obtain ⟨c1, c2⟩ := kB .out (by simp) (by simp) k' b hk hb'
          obtain ⟨d1, d2⟩ := frB.out k' b c1 c2
          exact ⟨by simp [g6, Gh.unlock, hr', hk', d1], d2⟩
      have out : ∀ e' s', ((∃ b, o = .inr b ∧ E b e' s')) → Rel s' a5 w5 g6 → e' ≠ .normal → ∃ st' g', Q e' st' ∧ Rel st' a5 w5 g' ∧ Fr false g w g' w5 := fun e' s' hb hrel' _ => by
        obtain ⟨b, rfl, hE⟩ := hb
        rcases hnext with ⟨x', h1, -⟩ | ⟨b', h1, hC⟩
        · cases h1
        · cases h1
          exact ⟨s', g6, aftE b e' s' hC hE, hrel', hfr.trans fr6⟩
      have back : (∃ x', o = .inl x' ∧ holes ⟨es, H0.set mi .hole ++ [.hole], H0.length, mi⟩ (Hf x') = true ∧ pickR n L s5 = some (l x', Hf x')) →
          ∃ y0 : γ × Gh × Array Nat × List (K × V) × Nat, (Rel (sp n (l y0.1) (Hf y0.1)) a5 w5 y0.2.1 ∧ Fr false g w y0.2.1 w5 ∧ holes ⟨es, H0.set mi .hole ++ [.hole], H0.length, mi⟩ (Hf y0.1) = true ∧ y0.2.1.ρ[H0.length]? = some r ∧ y0.2.1.ow r = .obj H0.length ∧ w5.heap[r]? = some (.mapIter (some kb) clock y0.2.2.1 y0.2.2.2.2) ∧ clock ≤ y0.2.2.2.2 ∧
            y0.2.1.ρ[mi]? = some kb ∧ y0.2.1.ow kb = .obj mi ∧ w5.heap[kb]? = some (.map ms clock) ∧ (∀ (j : Nat) (p : K × V), es[j]? = some p → ∃ m, ms[j]? = some m ∧ Rd y0.2.1 w5 m.key (kc.c.enc p.1) ∧ Rd y0.2.1 w5 m.val (v.enc p.2)) ∧
            y0.2.2.2.1 = toCome ms.toList es y0.2.2.1 ∧ ∀ p : List (K × V), p.Perm y0.2.2.2.1 → ∃ z, foldI step y0.1 p = some z ∧ C z) ∧ y0.2.2.2.1.length < todo.length := by
        rintro ⟨x', rfl, hho', hp⟩
        rcases hnext with ⟨x'', h1, hC⟩ | ⟨b', h1, -⟩
        · cases h1
          refine ⟨(x', g6, seen.push m.born, toCome ms.toList es (seen.push m.born), clock), ⟨rel6.keepR (keepR_of_pick hp), hfr.trans fr6, hho', ?_, ?_, hr5', Nat.le_refl _, ?_, ?_, hk5', ?_, rfl, hC⟩, ?_⟩
          · exact frB.rho _ _ e1
          · simp [g6, Gh.unlock]
          · exact frB.rho _ _ e5
          · simp [g6, Gh.unlock, Ne.symm hrk]
          · intro j p hj
            obtain ⟨m', n1, n2, n3⟩ := e8 j p hj
            have up : ∀ {u : Value} {d : D}, Rd g1 w1 u d → Rd g6 w5 u d := fun h => Rd.keep (((kB .free (by simp) (by simp)).trans frB.free).trans (k6 _ (by simp))) (fun i' k' h => frB.rho i' k' h) h
            exact ⟨m', n1, up n2, up n3⟩
          · rw [hperm.length_eq]; simp
        · cases h1
      cases ex with
      | normal => exact back q5
      | exit id =>
        simp only [blockS] at q5
        simp only [Exit.inBlock]
        split at q5
        · rename_i hid; rw [if_pos hid]; exact back q5
        · rename_i hid; rw [if_neg hid]; exact out _ _ q5 rel6 (by simp)
      | goto id => exact out _ _ q5 rel6 (by simp)
      | ret => exact out _ _ q5 rel6 (by simp)
      | panic ch => exact out _ _ q5 rel6 (by simp)
      | outgrown => exact out _ _ q5 rel6 (by simp)
end
end Go.Sh
