/- Contracts of functions over plain data. -/
import Derived.Test.YtjkhgfoecplbgaaS2
import Derived.Maps.RangeRun
import Derived.Lib.SliceRun
import Derived.Laws.Externs
import Derived.IntWalk
import Derived.Lib.Bytealg
set_option linter.all false
set_option autoImplicit true
set_option relaxedAutoImplicit true
set_option linter.unusedVariables false
set_option linter.unusedSimpArgs false
namespace Go.Sh

/-! ## The plain side -/

/-- A loop over entries, one after the other. -/
def foldI {γ ε β : Type} (step : γ → ε → Option (γ ⊕ β)) : γ → List ε → Option (γ ⊕ β)
  | x, [] => some (.inl x)
  | x, y :: r => match step x y with
    | some (.inl x') => foldI step x' r
    | some (.inr b) => some (.inr b)
    | none => none

open Classical in
/-- What all orders of a list agree on. -/
noncomputable def allP {α ρ : Type} (l : List α) (f : List α → Option ρ) : Option ρ :=
  if h : ∃ r, ∀ p : List α, p.Perm l → f p = some r then some (Classical.choose h) else none

theorem allP_inv {α ρ : Type} {l : List α} {f : List α → Option ρ} {r : ρ} (h : allP l f = some r) : ∀ p : List α, p.Perm l → f p = some r := by
  unfold allP at h
  split at h
  · rename_i hx
    cases h
    exact Classical.choose_spec hx
  · cases h

theorem allP_eq {α ρ : Type} {l : List α} {f : List α → Option ρ} {r : ρ} (h : ∀ p : List α, p.Perm l → f p = some r) : allP l f = some r := by
  have hx : ∃ r, ∀ p : List α, p.Perm l → f p = some r := ⟨r, h⟩
  unfold allP
  rw [dif_pos hx]
  have h1 := Classical.choose_spec hx l (List.Perm.refl _)
  rw [h l (List.Perm.refl _)] at h1
  exact h1.symm

structure Rng (K V : Type) where
  es : List (K × V)
  H : Hp
  it : Nat
  mi : Nat

/-- A map is taken out of the heap to go through it; the iterator has a place too. -/
def hRange {K V : Type} [BEq K] (k : Kc K) (v : Cd V) (H : Hp) (m : Option Nat) : Option (Rng K V) :=
  m.bind fun i => (hMap k v H (some i)).map fun es => ⟨es, H.set i .hole ++ [.hole], H.length, i⟩

def holes {K V : Type} (q : Rng K V) (H : Hp) : Bool := (match H[q.it]? with | some .hole => true | _ => false) && (match H[q.mi]? with | some .hole => true | _ => false)

/-- The map is put back. -/
def hBack {K V : Type} [BEq K] (k : Kc K) (v : Cd V) (q : Rng K V) (H : Hp) : Option Hp := if holes q H then some (H.set q.mi (.map (q.es.map (encE k v)))) else none

def hIt {K V : Type} [BEq K] (k : Kc K) (v : Cd V) (q : Rng K V) (kb clock : Nat) (ms : Array MapEntry) : Hp := (q.H.set q.mi (.mapX kb clock ms (q.es.map (encE k v)))).set q.it (.iter kb clock)

section
variable {P : Program} {st : St} {ops : Array Oper} {k : Nat} {Q : St → Prop} (n : Nat) (H : List SObj) {K V : Type} [BEq K]

def rgAt (P : Program) (ops : Array Oper) (k : Nat) (st : St) : Option (Option Tmp × D × Hp) :=
  match opAt ops k st with
  | some o => match o.op with
    | .range T x => match P.underlying T, valD st x with
      | some (.map _ _), some dm => some (o.dst, dm, st.H)
      | _, _ => none
    | _ => none
  | none => none

theorem OWk.mrange {kc : Kc K} {v : Cd V} {mm : Option Nat} {q : Rng K V} {H0 : Hp} {d : Option Tmp} (hx : hRange kc v H0 mm = some q) (h : rgAt P ops k st = some (d, cM.enc mm, H0)) (L : List Nat) (l : List (Nat × SV))
    (hst : ∀ H1, pickR n L ((st.hp H1).put d (.d (.ptr q.it 0))) = some (l, H1))
    (hn : ∀ kb clock ms, OWk P false ops (k + 1) (sp n l (hIt kc v q kb clock ms)) Q) : OWk P false ops k st Q := by
  unfold rgAt at h
  split at h
  · rename_i o ho
    obtain ⟨g1, g2⟩ := opAt_inv ho
    split at h
    · rename_i T x hop
      split at h
      · rename_i KT ET dm hT hv
        simp only [Option.some.injEq, Prod.mk.injEq] at h
        obtain ⟨rfl, rfl, rfl⟩ := h
        simp only [hRange, Option.bind_eq_some_iff, Option.map_eq_some_iff] at hx
        obtain ⟨i, rfl, es, hm, rfl⟩ := hx
        unfold OWk at hn ⊢
        rw [drop_cons g1]
        intro a w g hr Qc hq
        unfold wpList
        rw [wantS_sound hr g2, if_pos rfl]
        refine .inl ?_
        obtain ⟨kb, e1, e2⟩ := mapOf_sound hr hv
        have hH := hMap_eq.1 hm
        obtain ⟨kb', ms, clock, f1, f2, f3, f4, f5, f6⟩ := hr.hp.2 i _ hH
        have hkb : kb = kb' := by rw [f1] at e1; exact (Option.some.inj e1).symm
        subst hkb
        have hrun : (execOp a.eval o).run P w = .ok (.value (.pointer (some ⟨w.heap.size, 0, none⟩))) (w.alloc (.mapIter (some kb) clock #[] clock)) := by
          unfold execOp; rw [hop]
          simp only [e2, Instr.range, Sem.run_bind, run_underlying hT, Result.andThen_ok, run_getMap f3, Sem.run_pure, run_newObj]
          rfl
        unfold Oper.wp
        rw [hrun, Oper.upon_value]
        have hlen := get_lt hH
        have hrel : Rel (st.hp (hIt kc v ⟨es, st.H.set i .hole ++ [.hole], st.H.length, i⟩ kb clock ms)) a (w.alloc (.mapIter (some kb) clock #[] clock)) (g.new w.heap.size st.H.length) := by
          refine Rel.step hr hr.len hr.def0 KeepR.new (fun t s hs => .inr (.inr ⟨hs, rfl, fun o' ho' => Keep.new, fun s' _ => ⟨rfl, fun x hx _ => ⟨x, hx, rfl⟩⟩⟩)) ⟨by simp [St.hp, hIt, Gh.new, hr.hp.1], fun i' o' hi' => ?_⟩
          simp only [St.hp, hIt] at hi'
          by_cases h1 : i' = st.H.length
          · subst h1
            rw [List.getElem?_set_self (by simp)] at hi'
            cases hi'
            exact ⟨w.heap.size, new_rho hr.hp _, new_ow _ _, heap_alloc _ _⟩
          · rw [List.getElem?_set_ne (Ne.symm h1)] at hi'
            by_cases h2 : i' = i
            · subst h2
              rw [List.getElem?_set_self (by simp; omega)] at hi'
              cases hi'
              obtain ⟨a1, a2⟩ := Keep.new (o' := .obj i') (g := g) (w := w) (ob := .mapIter (some kb) clock #[] clock) (i := st.H.length) kb _ f2 f3
              refine ⟨KeepR.new _ _ f1, a1, a2, by simpa using f4, f5, fun j p hj => ?_⟩
              obtain ⟨m, m1, m2, m3⟩ := f6 j p hj
              exact ⟨m, m1, Rd.keep Keep.new KeepR.new m2, Rd.keep Keep.new KeepR.new m3⟩
            · rw [List.getElem?_set_ne (Ne.symm h2)] at hi'
              by_cases h3 : i' < st.H.length
              · rw [List.getElem?_append_left (by simpa using h3), List.getElem?_set_ne (Ne.symm h2)] at hi'
                exact (hr.hp.2 i' o' hi').keepI Keep.new Keep.new (fun _ => Keep.new) KeepR.new
              · have := get_lt hi'
                simp at this
                omega
        refine hn kb clock ms _ _ _ ((hrel.putLight o.dst (s := .d (.ptr st.H.length 0)) (v := .pointer (some ⟨w.heap.size, 0, none⟩)) (.ptr (new_rho hr.hp _))).keepR (keepR_of_pick (hst _))) Qc fun st' a' w' g' q r f => hq st' a' w' g' q r (Fr.new.trans f)
      · cases h
    · cases h
  · cases h

/-- The entries that are to come. -/
def toCome {ε : Type} (ms : List MapEntry) (es : List ε) (seen : Array Nat) : List ε := ((ms.zip es).filter fun p => !seen.contains p.1.born).map (·.2)

theorem toCome_step {ε : Type} : ∀ (ms : List MapEntry) (es : List ε) (seen : Array Nat) (e : MapEntry), (ms.map (·.born)).Nodup → ms.length = es.length → e ∈ ms → seen.contains e.born = false →
    ∃ (j : Nat) (y : ε), ms[j]? = some e ∧ es[j]? = some y ∧ (toCome ms es seen).Perm (y :: toCome ms es (seen.push e.born))
  | [], _, _, e, _, _, h, _ => by simp at h
  | m :: ms, [], seen, e, _, h, _, _ => by simp at h
  | m :: ms, y :: es, seen, e, hn, hl, he, hs => by
    simp only [List.map_cons, List.nodup_cons] at hn
    by_cases h : m = e
    · subst h
      refine ⟨0, y, rfl, rfl, ?_⟩
      have hrest : toCome ms es (seen.push m.born) = toCome ms es seen := by
        unfold toCome
        congr 1
        apply List.filter_congr
        intro p hp
        have hne : p.1.born ≠ m.born := fun h => hn.1 (List.mem_map.2 ⟨p.1, (List.of_mem_zip hp).1, h⟩)
        simp [hne]
      have h1 : toCome (m :: ms) (y :: es) seen = y :: toCome ms es seen := by
        unfold toCome
        rw [List.zip_cons_cons, List.filter_cons_of_pos (by simp only [hs]; rfl)]
        rfl
      have h2 : toCome (m :: ms) (y :: es) (seen.push m.born) = toCome ms es (seen.push m.born) := by
        unfold toCome
        rw [List.zip_cons_cons, List.filter_cons_of_neg (by simp)]
      rw [h1, h2, hrest]
    · have he' : e ∈ ms := by
        rcases List.mem_cons.1 he with h' | h'
        · exact absurd h'.symm h
        · exact h'
      obtain ⟨j, z, j1, j2, j3⟩ := toCome_step ms es seen e hn.2 (by simpa using hl) he' hs
      refine ⟨j + 1, z, by simpa using j1, by simpa using j2, ?_⟩
      have hne : m.born ≠ e.born := fun h => hn.1 (List.mem_map.2 ⟨e, he', h.symm⟩)
      by_cases hm : seen.contains m.born = true
      · have h1 : toCome (m :: ms) (y :: es) seen = toCome ms es seen := by
          unfold toCome
          rw [List.zip_cons_cons, List.filter_cons_of_neg (by simp only [hm]; simp)]
        have h2 : toCome (m :: ms) (y :: es) (seen.push e.born) = toCome ms es (seen.push e.born) := by
          unfold toCome
          have : (seen.push e.born).contains m.born = true := by simp at hm ⊢; exact .inl hm
          rw [List.zip_cons_cons, List.filter_cons_of_neg (by simp only [this]; simp)]
        rw [h1, h2]; exact j3
      · have hm' : seen.contains m.born = false := by simpa using hm
        have h1 : toCome (m :: ms) (y :: es) seen = y :: toCome ms es seen := by
          unfold toCome
          rw [List.zip_cons_cons, List.filter_cons_of_pos (by simp only [hm']; rfl)]
          rfl
        have h2 : toCome (m :: ms) (y :: es) (seen.push e.born) = y :: toCome ms es (seen.push e.born) := by
          unfold toCome
          have : (seen.push e.born).contains m.born = false := by simp at hm' ⊢; exact ⟨hm', hne⟩
          rw [List.zip_cons_cons, List.filter_cons_of_pos (by simp only [this]; rfl)]
          rfl
        rw [h1, h2]
        exact (j3.cons y).trans (.swap _ _ _)

theorem toCome_empty {ε : Type} {ms : Array MapEntry} {es : List ε} {seen : Array Nat} (h : (leftOf ms seen).size = 0) : toCome ms.toList es seen = [] := by
  unfold toCome
  rw [List.map_eq_nil_iff, List.filter_eq_nil_iff]
  intro p hp
  have h0 : leftOf ms seen = #[] := Array.eq_empty_of_size_eq_zero h
  unfold leftOf at h0
  rw [Array.filter_eq_empty_iff] at h0
  exact h0 p.1 (by simpa using (List.of_mem_zip hp).1)

theorem wpList_val {o : Oper} {rest : List Oper} {a : Act} {w w' : World} {v : Value} {Q : Exit → Act → World → Prop} (hg : o.guard = none) (hrun : (execOp a.eval o).run P w = .ok (.value v) w') (h : wpList P ops Q rest (a.put o.dst v) w') : wpList P ops Q (o :: rest) a w := by
  unfold wpList
  rw [show Region.wanted o (yielded ops a.tmps) = true by unfold Region.wanted; rw [hg], if_pos rfl]
  refine .inl ?_
  unfold Oper.wp
  rw [hrun, Oper.upon_value]
  exact h

theorem spL_len : ∀ (n : Nat) (l : List (Nat × SV)) (t : Nat), (spL l n t).length = n
  | 0, _, _ => rfl
  | n + 1, [], t => by simp [spL, spL_len n]
  | n + 1, (t', s) :: r, t => by simp only [spL]; split <;> simp [spL_len n]

/-- Blocks of two owners are lent to nobody for a while. -/
def Gh.lock (g : Gh) (r kb : Nat) : Gh := ⟨fun b => if b = r ∨ b = kb then .out else g.ow b, g.ρ⟩
def Gh.unlock (g : Gh) (r kb it mi : Nat) : Gh := ⟨fun b => if b = r then .obj it else if b = kb then .obj mi else g.ow b, g.ρ⟩

theorem RO.hole_of {g : Gh} {w : World} {i : Nat} {o : SObj} (h : (match o with | .hole => true | _ => false) = true) : RO g w i o := by
  cases o <;> first | trivial | cases h

theorem holes_inv {q : Rng K V} {H : Hp} (h : holes q H = true) : H[q.it]? = some .hole ∧ H[q.mi]? = some .hole := by
  unfold holes at h
  rw [Bool.and_eq_true] at h
  constructor
  · have := h.1
    split at this
    · assumption
    · cases this
  · have := h.2
    split at this
    · assumption
    · cases this

/-- **A LOOP OVER A MAP**: whatever order its entries come in, the loop ends as 'foldI' tells. -/
theorem SW.rng {γ β : Type} {kc : Kc K} {v : Cd V} {mm : Option Nat} {q : Rng K V} {H0 : Hp} {kb clock : Nat} {ms : Array MapEntry} {B B2 i1 i2 : Nat} {o1 o2 o3 : Oper} {eops : List Oper} {Y : Code} {Q : Exit → St → Prop} {ti tn tc te : Tmp}
    (L : List Nat) (l : γ → List (Nat × SV)) (Hf : γ → Hp) (step : γ → K × V → Option (γ ⊕ β)) (x0 : γ) (C : γ ⊕ β → Prop) (E : β → Exit → St → Prop)
    (hx : hRange kc v H0 mm = some q) (hit : ∀ p : List (K × V), p.Perm q.es → ∃ z, foldI step x0 p = some z ∧ C z) (h0 : pickR n L st = some (l x0, hIt kc v q kb clock ms)) (hH0 : Hf x0 = q.H)
    (ho1 : o1.op = .next (.tmp ti) false) (hd1 : o1.dst = some tn) (hg1 : o1.guard = none) (ho2 : o2.op = .extract (.tmp tn) 0) (hd2 : o2.dst = some tc) (hg2 : o2.guard = none) (ho3 : o3.op = .entry (.tmp ti)) (hd3 : o3.dst = some te) (hg3 : o3.guard = none)
    (hsz : (decide (tn < n) && (decide (tc < n) && (decide (tn ≠ ti) && decide (tc ≠ ti)))) = true) (hs : ∀ x, valD (sp n (l x) (Hf x)) (.tmp ti) = some (.ptr q.it 0)) (hk : ∀ x, pickR n L (((sp n (l x) (Hf x)).put (some tn) .undef).put (some tc) .undef) = some (l x, Hf x))
    (round : ∀ x y o, holes q (Hf x) = true → step x y = some o → OWk P false (o3 :: eops).toArray 1 ((sp n (l x) (Hf x)).put (some te) (.tup [.d (kc.c.enc y.1), .d (v.enc y.2)]))
      (thenS (fun s1 => SW P false Y s1 (blockS B2 (thenS (fun s' => ∃ x', o = .inl x' ∧ holes q (Hf x') = true ∧ pickR n L s' = some (l x', Hf x')) (fun e s' => ∃ b, o = .inr b ∧ E b e s')))) (blockS B2 (thenS (fun s' => ∃ x', o = .inl x' ∧ holes q (Hf x') = true ∧ pickR n L s' = some (l x', Hf x')) (fun e s' => ∃ b, o = .inr b ∧ E b e s'))) .normal))
    (aft : ∀ x, C (.inl x) → ∃ H2, hBack kc v q (Hf x) = some H2 ∧ Q (.exit B) (sp n (l x) H2)) (aftE : ∀ b e s, C (.inr b) → E b e s → Q e s) :
    SW P false (.loop (.seq (.region i1 #[o1, o2] false) (.seq (.cond (.tmp tc) .skip (.exit B)) (.block B2 (.seq (.region i2 (o3 :: eops).toArray false) Y))))) st Q := by
  simp only [Bool.and_eq_true, decide_eq_true_eq] at hsz
  obtain ⟨hn1, hn2, hne1, hne2⟩ := hsz
  refine SW.keep L (keepR_of_pick h0) ?_
  intro a w g hr
  simp only [hRange, Option.bind_eq_some_iff, Option.map_eq_some_iff] at hx
  obtain ⟨mi, rfl, es, hm, rfl⟩ := hx
  have hmi := get_lt (hMap_eq.1 hm)
  -- the iterator and the map, in memory
  have hI := hr.hp.2 H0.length (.iter kb clock) (by simp [sp, hIt, hH0])
  obtain ⟨r, r1, r2, r3⟩ := hI
  have hM := hr.hp.2 mi (.mapX kb clock ms (es.map (encE kc v))) (by
    simp only [sp, hIt]
    rw [List.getElem?_set_ne (by omega), List.getElem?_set_self (by simp; omega)])
  obtain ⟨b1, b2, b3, b4, b5, b6⟩ := hM
  have hrk : r ≠ kb := by
    rintro rfl
    rw [r3] at b3; cases b3
  have hρlen := hr.hp.1
  -- the state at the first head
  have hr0 : Rel (sp n (l x0) (Hf x0)) a w g := by
    refine Rel.step hr hr.len hr.def0 (fun _ _ h => h) (fun t s hs => .inr (.inr ⟨hs, rfl, fun o' ho' => Keep.refl _ _ _, fun s' _ => ⟨rfl, fun x hx _ => ⟨x, hx, rfl⟩⟩⟩)) ⟨by rw [hρlen]; simp [sp, hIt, hH0], fun i' o' hi' => ?_⟩
    rw [hH0] at hi'
    simp only [sp] at hi'
    by_cases h1 : i' = H0.length
    · subst h1
      rw [List.getElem?_append_right (by simp)] at hi'
      simp at hi'
      subst hi'
      trivial
    · by_cases h2 : i' = mi
      · subst h2
        rw [List.getElem?_append_left (by simpa using hmi), List.getElem?_set_self hmi] at hi'
        cases hi'
        trivial
      · exact hr.hp.2 i' o' (by simp only [sp, hIt]; rw [List.getElem?_set_ne (Ne.symm h1), List.getElem?_set_ne (Ne.symm h2)]; exact hi')
  have hbl : ms.toList.length = es.length := by simpa using b4
  refine wp_loop_ghost (α := γ × Gh × Array Nat × List (K × V) × Nat) (x := (x0, g, #[], es, clock))
    (fun x a' w' => Rel (sp n (l x.1) (Hf x.1)) a' w' x.2.1 ∧ Fr false g w x.2.1 w' ∧ holes ⟨es, H0.set mi .hole ++ [.hole], H0.length, mi⟩ (Hf x.1) = true ∧ x.2.1.ρ[H0.length]? = some r ∧ x.2.1.ow r = .obj H0.length ∧ w'.heap[r]? = some (.mapIter (some kb) clock x.2.2.1 x.2.2.2.2) ∧ clock ≤ x.2.2.2.2 ∧
      x.2.1.ρ[mi]? = some kb ∧ x.2.1.ow kb = .obj mi ∧ w'.heap[kb]? = some (.map ms clock) ∧ (∀ (j : Nat) (p : K × V), es[j]? = some p → ∃ m, ms[j]? = some m ∧ Rd x.2.1 w' m.key (kc.c.enc p.1) ∧ Rd x.2.1 w' m.val (v.enc p.2)) ∧
      x.2.2.2.1 = toCome ms.toList es x.2.2.1 ∧ ∀ p : List (K × V), p.Perm x.2.2.2.1 → ∃ z, foldI step x.1 p = some z ∧ C z)
    (fun x => x.2.2.2.1.length) ⟨hr0, Fr.refl _ _ _, ?_, r1, r2, r3, Nat.le_refl _, b1, b2, b3, ?_, ?_, hit⟩ ?_
  · rw [hH0]
    unfold holes
    rw [List.getElem?_append_right (by simp), List.getElem?_append_left (by simpa using hmi), List.getElem?_set_self hmi]
    simp
  · intro j p hj
    exact b6 j (encE kc v p) (by simp [hj])
  · unfold toCome
    rw [List.filter_eq_self.2 (by simp)]
    have : (ms.toList.zip es).map (·.2) = es := by rw [List.map_snd_zip]; omega
    exact this.symm
  · rintro ⟨x, g1, seen, todo, last⟩ a1 w1 ⟨hrel, hfr, hho, e1, e2, e3, e4, e5, e6, e7, e8, e9, e10⟩
    simp only at hrel hfr hho e1 e2 e3 e4 e5 e6 e7 e8 e9 e10 ⊢
    have hev : a1.eval (.tmp ti) = .pointer (some ⟨r, 0, none⟩) := by
      have := valD_d hrel (hs x)
      generalize a1.eval (.tmp ti) = u at this
      cases this with
      | ptr h => rw [e1] at h; cases h; rfl
    have hlen := hrel.len
    have hlen' : a1.tmps.size = n := by rw [hlen]; simp [sp, spL_len]
    have hold : ∀ x ∈ ms.toList, x.born < clock := b5.1
    refine wp_seq (wp_region_lit (l := [o1, o2]) ?_)
    rcases run_next_at (P := P) w1 o1.type r kb clock last seen ms clock e3 e7 hold e4 with ⟨hleft, hrun⟩ | ⟨e, he, w2, hw2, hrun⟩
    · -- nothing is left
      have htodo : todo = [] := by rw [e9, toCome_empty hleft]
      subst htodo
      obtain ⟨z, z1, z2⟩ := e10 [] (List.Perm.refl _)
      simp only [foldI, Option.some.injEq] at z1
      subst z1
      obtain ⟨H2, hb, hQ⟩ := aft x z2
      refine wpList_val hg1 (v := .tuple #[.bool false]) (w' := w1) ?_ ?_
      · unfold execOp; rw [ho1]; simp only [hev, Sem.run_bind, hrun, Result.andThen_ok, Sem.run_pure]
      refine wpList_val hg2 (v := .bool false) (w' := w1) ?_ ?_
      · unfold execOp; rw [ho2, hd1]
        have : (a1.put (some tn) (.tuple #[.bool false])).eval (.tmp tn) = .tuple #[.bool false] := valOf_put_same (by rw [hlen']; exact hn1)
        simp only [this, Instr.extract, Sem.run_bind]
        rfl
      rw [hd1, hd2]
      refine wp_seq (wp_cond_false ?_ (wp_exit ?_))
      · exact valOf_put_same (by rw [put_size, hlen']; exact hn2)
      have hrel2 := ((hrel.putLight (some tn) (v := .tuple #[.bool false]) (s := .undef) trivial).putLight (some tc) (v := .bool false) (s := .undef) trivial).keepR (keepR_of_pick (hk x))
      simp only [hBack] at hb
      rw [if_pos hho] at hb
      cases hb
      refine ⟨sp n (l x) _, g1, hQ, ?_, hfr⟩
      have hh := holes_inv hho
      refine Rel.step hrel2 hrel2.len hrel2.def0 (fun _ _ h => h) (fun t s hs => .inr (.inr ⟨hs, rfl, fun o' ho' => Keep.refl _ _ _, fun s' _ => ⟨rfl, fun x hx _ => ⟨x, hx, rfl⟩⟩⟩)) ⟨by rw [hrel2.hp.1]; simp [sp], fun i' o' hi' => ?_⟩
      simp only [sp] at hi'
      by_cases h2 : i' = mi
      · subst h2
        rw [List.getElem?_set_self (get_lt hh.2)] at hi'
        cases hi'
        refine ⟨kb, ms, clock, e5, e6, e7, by simpa using b4, b5, fun j p hj => ?_⟩
        simp only [List.getElem?_map, Option.map_eq_some_iff] at hj
        obtain ⟨p', hp', rfl⟩ := hj
        exact e8 j p' hp'
      · rw [List.getElem?_set_ne (Ne.symm h2)] at hi'
        exact hrel2.hp.2 i' o' hi'
    · -- one more
      have hem : e ∈ ms.toList ∧ seen.contains e.born = false := by
        unfold leftOf at he
        simp at he
        exact ⟨by simpa using he.1, by simpa using he.2⟩
      obtain ⟨j, y, j1, j2, j3⟩ := toCome_step ms.toList es seen e b5.2 hbl hem.1 hem.2
      obtain ⟨m, m1, m2, m3⟩ := e8 j y j2
      have hme : m = e := by
        have j1' : ms[j]? = some e := by simpa using j1
        rw [m1] at j1'; exact Option.some.inj j1'
      subst hme
      let w3 := ChangeMaps.setBlock w2 r (.mapIter (some kb) clock (seen.push m.born) clock)
      have hw2h : w2.heap = w1.heap := by rcases hw2 with rfl | rfl <;> rfl
      have hos3 : SameOs w1 w3 := by
        have : SameOs w1 w2 := by rcases hw2 with rfl | rfl <;> exact ⟨rfl, rfl⟩
        exact this.trans ⟨rfl, rfl⟩
      have hw3 : ∀ k', k' ≠ r → w3.heap[k']? = w1.heap[k']? := fun k' h => by simp [w3, ChangeMaps.setBlock, hw2h, Array.getElem?_setIfInBounds_ne (Ne.symm h)]
      have hw3r : w3.heap[r]? = some (.mapIter (some kb) clock (seen.push m.born) clock) := by
        have := arr_lt e3
        simp [w3, ChangeMaps.setBlock, hw2h, this]
      have hw3s : w3.heap.size = w1.heap.size := by simp [w3, ChangeMaps.setBlock, hw2h]
      have hh := holes_inv hho
      -- the body's ghosts
      let gB := g1.lock r kb
      have kB : ∀ o', o' ≠ .obj H0.length → o' ≠ .obj mi → Keep o' g1 w1 gB w3 := fun o' h1 h2 k' b hk hb' => by
        have hr' : k' ≠ r := by rintro rfl; exact h1 (hk.symm.trans e2)
        have hk' : k' ≠ kb := by rintro rfl; exact h2 (hk.symm.trans e6)
        exact ⟨by simp [gB, Gh.lock, hr', hk', hk], by rw [hw3 k' hr']; exact hb'⟩
      have hrelB : Rel (sp n (l x) (Hf x)) a1 w3 gB := by
        refine Rel.step hrel hrel.len hrel.def0 (fun _ _ h => h) (fun t s hs => .inr (.inr ⟨hs, rfl, fun o' ho' => kB o' (fun e => uses_obj (e ▸ ho')) (fun e => uses_obj (e ▸ ho')), fun s' _ => ⟨rfl, fun x hx _ => ⟨x, hx, rfl⟩⟩⟩)) ⟨hrel.hp.1, fun i' o' hi' => ?_⟩
        simp only [sp] at hi'
        by_cases h1 : i' = H0.length
        · subst h1; rw [hh.1] at hi'; cases hi'; trivial
        · by_cases h2 : i' = mi
          · subst h2; rw [hh.2] at hi'; cases hi'; trivial
          · exact (hrel.hp.2 i' o' hi').keepI (kB _ (by simp) (by simp)) (kB _ (by simpa using h1) (by simpa using h2)) (fun j => kB _ (by simp) (by simp)) (fun _ _ h => h)
      refine wpList_val hg1 (v := .tuple #[.bool true, m.key, m.val]) (w' := w3) ?_ ?_
      · unfold execOp; rw [ho1]; simp only [hev, Sem.run_bind, hrun, Result.andThen_ok, Sem.run_pure]; rfl
      refine wpList_val hg2 (v := .bool true) (w' := w3) ?_ ?_
      · unfold execOp; rw [ho2, hd1]
        have : (a1.put (some tn) (.tuple #[.bool true, m.key, m.val])).eval (.tmp tn) = .tuple #[.bool true, m.key, m.val] := valOf_put_same (by rw [hlen']; exact hn1)
        simp only [this, Instr.extract, Sem.run_bind]
        rfl
      rw [hd1, hd2]
      generalize ha2 : (a1.put (some tn) (.tuple #[.bool true, m.key, m.val])).put (some tc) (.bool true) = a2
      have hrel2 : Rel (sp n (l x) (Hf x)) a2 w3 gB := by
        subst ha2
        exact ((hrelB.putLight (some tn) (v := .tuple #[.bool true, m.key, m.val]) (s := .undef) trivial).putLight (some tc) (v := .bool true) (s := .undef) trivial).keepR (keepR_of_pick (hk x))
      refine wp_seq (wp_cond_true ?_ (wp_skip ?_))
      · subst ha2; exact valOf_put_same (by rw [put_size, hlen']; exact hn2)
      -- the rest to come
      have hperm : todo.Perm (y :: toCome ms.toList es (seen.push m.born)) := by rw [e9]; exact j3
      obtain ⟨o, ho, hnext⟩ : ∃ o, step x y = some o ∧ ((∃ x', o = .inl x' ∧ ∀ p : List (K × V), p.Perm (toCome ms.toList es (seen.push m.born)) → ∃ z, foldI step x' p = some z ∧ C z) ∨ ∃ b, o = .inr b ∧ C (.inr b)) := by
        obtain ⟨z, z1, z2⟩ := e10 (y :: toCome ms.toList es (seen.push m.born)) hperm.symm
        simp only [foldI] at z1
        cases hst : step x y with
        | none => rw [hst] at z1; cases z1
        | some o =>
          rw [hst] at z1
          cases o with
          | inl x' =>
            refine ⟨_, rfl, .inl ⟨x', rfl, fun p hp => ?_⟩⟩
            obtain ⟨z', y1, y2⟩ := e10 (y :: p) (hperm.trans (hp.symm.cons y)).symm
            simp only [foldI, hst] at y1
            exact ⟨z', y1, y2⟩
          | inr b => cases z1; exact ⟨_, rfl, .inr ⟨b, rfl, z2⟩⟩
      have hev2 : a2.eval (.tmp ti) = .pointer (some ⟨r, 0, none⟩) := by
        subst ha2
        rw [eval_put_other (by simpa using Ne.symm hne2), eval_put_other (by simpa using Ne.symm hne1)]
        exact hev
      have hkb3 : w3.heap[kb]? = some (.map ms clock) := by rw [hw3 kb (Ne.symm hrk)]; exact e7
      have hrunE := run_entry_at (P := P) w3 r kb clock seen ms clock m hw3r hkb3 hem.1 b5.2
      have hrdB : ∀ {u : Value} {d : D}, Rd g1 w1 u d → Rd gB w3 u d := fun h => Rd.keep (kB _ (by simp) (by simp)) (fun _ _ h => h) h
      refine wp_block (wp_seq (wp_region_lit (l := o3 :: eops) ?_))
      refine wpList_val hg3 (v := .tuple #[m.key, m.val]) (w' := w3) ?_ ?_
      · unfold execOp; rw [ho3]; simp only [hev2, Sem.run_bind, hrunE, Result.andThen_ok, Sem.run_pure]
      rw [hd3]
      have hrel3 := hrel2.putLight (some te) (v := .tuple #[m.key, m.val]) (s := .tup [.d (kc.c.enc y.1), .d (v.enc y.2)]) ⟨#[m.key, m.val], rfl, rfl, fun j s hj => by
        match j, hj with
        | 0, hj => simp at hj; exact ⟨m.key, _, rfl, hj.symm, hrdB m2⟩
        | 1, hj => simp at hj; exact ⟨m.val, _, rfl, hj.symm, hrdB m3⟩
        | j + 2, hj => simp at hj⟩
      refine round x y o hho ho _ w3 gB hrel3 _ fun s1 a3 w4 g4 hq4 hrel4 hfr4 => ?_
      refine Code.wp_mono (fun ex a5 w5 hh5 => ?_) (hq4 a3 w4 g4 hrel4)
      obtain ⟨s5, g5, q5, rel5, fr5⟩ := hh5
      have frB : Fr false gB w3 g5 w5 := hfr4.trans fr5
      -- back to our own ghosts
      let g6 := g5.unlock r kb H0.length mi
      have hrB : gB.ow r = .out := by simp [gB, Gh.lock]
      have hkB : gB.ow kb = .out := by simp [gB, Gh.lock]
      obtain ⟨hr5, hr5'⟩ := frB.out r _ hrB hw3r
      obtain ⟨hk5, hk5'⟩ := frB.out kb _ hkB hkb3
      have k6 : ∀ o', o' ≠ .out → Keep o' g5 w5 g6 w5 := fun o' h1 k' b hk hb' => by
        have hr' : k' ≠ r := by rintro rfl; exact h1 (hk.symm.trans hr5)
        have hk' : k' ≠ kb := by rintro rfl; exact h1 (hk.symm.trans hk5)
        exact ⟨by simp [g6, Gh.unlock, hr', hk', hk], hb'⟩
      have rel6 : Rel s5 a5 w5 g6 := by
        refine Rel.step rel5 rel5.len rel5.def0 (fun _ _ h => h) (fun t s hs => .inr (.inr ⟨hs, rfl, fun o' ho' => k6 o' (fun e => by subst e; cases s <;> simp [uses] at ho'), fun s' _ => ⟨rfl, fun x hx _ => ⟨x, hx, rfl⟩⟩⟩)) ⟨rel5.hp.1, fun i' o' hi' => ?_⟩
        exact (rel5.hp.2 i' o' hi').keepI (k6 _ (by simp)) (k6 _ (by simp)) (fun j => k6 _ (by simp)) (fun _ _ h => h)
      have fr6 : Fr false g1 w1 g6 w5 := by
        refine ⟨by have := frB.size; omega, ?_, ?_, fun i' k' h => frB.rho i' k' h, nofun, nofun, nofun, hos3.trans frB.os⟩
        · exact ((kB .free (by simp) (by simp)).trans frB.free).trans (k6 _ (by simp))
        · intro k' b hk hb'
          have hr' : k' ≠ r := by rintro rfl; rw [e2] at hk; cases hk
          have hk' : k' ≠ kb := by rintro rfl; rw [e6] at hk; cases hk
          obtain ⟨c1, c2⟩ := kB .out (by simp) (by simp) k' b hk hb'
          obtain ⟨d1, d2⟩ := frB.out k' b c1 c2
          exact ⟨by simp [g6, Gh.unlock, hr', hk', d1], d2⟩
      have out : ∀ e' s', ((∃ b, o = .inr b ∧ E b e' s')) → Rel s' a5 w5 g6 → e' ≠ .normal → ∃ st' g', Q e' st' ∧ Rel st' a5 w5 g' ∧ Fr false g w g' w5 := fun e' s' hb hrel' _ => by
        obtain ⟨b, rfl, hE⟩ := hb
        rcases hnext with ⟨x', h1, -⟩ | ⟨b', h1, hC⟩
        · cases h1
        · cases h1
          exact ⟨s', g6, aftE b e' s' hC hE, hrel', hfr.trans fr6⟩
      have back : (∃ x', o = .inl x' ∧ holes ⟨es, H0.set mi .hole ++ [.hole], H0.length, mi⟩ (Hf x') = true ∧ pickR n L s5 = some (l x', Hf x')) →
          ∃ y0 : γ × Gh × Array Nat × List (K × V) × Nat, (Rel (sp n (l y0.1) (Hf y0.1)) a5 w5 y0.2.1 ∧ Fr false g w y0.2.1 w5 ∧ holes ⟨es, H0.set mi .hole ++ [.hole], H0.length, mi⟩ (Hf y0.1) = true ∧ y0.2.1.ρ[H0.length]? = some r ∧ y0.2.1.ow r = .obj H0.length ∧ w5.heap[r]? = some (.mapIter (some kb) clock y0.2.2.1 y0.2.2.2.2) ∧ clock ≤ y0.2.2.2.2 ∧
            y0.2.1.ρ[mi]? = some kb ∧ y0.2.1.ow kb = .obj mi ∧ w5.heap[kb]? = some (.map ms clock) ∧ (∀ (j : Nat) (p : K × V), es[j]? = some p → ∃ m, ms[j]? = some m ∧ Rd y0.2.1 w5 m.key (kc.c.enc p.1) ∧ Rd y0.2.1 w5 m.val (v.enc p.2)) ∧
            y0.2.2.2.1 = toCome ms.toList es y0.2.2.1 ∧ ∀ p : List (K × V), p.Perm y0.2.2.2.1 → ∃ z, foldI step y0.1 p = some z ∧ C z) ∧ y0.2.2.2.1.length < todo.length := by
        rintro ⟨x', rfl, hho', hp⟩
        rcases hnext with ⟨x'', h1, hC⟩ | ⟨b', h1, -⟩
        · cases h1
          refine ⟨(x', g6, seen.push m.born, toCome ms.toList es (seen.push m.born), clock), ⟨rel6.keepR (keepR_of_pick hp), hfr.trans fr6, hho', ?_, ?_, hr5', Nat.le_refl _, ?_, ?_, hk5', ?_, rfl, hC⟩, ?_⟩
          · exact frB.rho _ _ e1
          · simp [g6, Gh.unlock]
          · exact frB.rho _ _ e5
          · simp [g6, Gh.unlock, Ne.symm hrk]
          · intro j p hj
            obtain ⟨m', n1, n2, n3⟩ := e8 j p hj
            have up : ∀ {u : Value} {d : D}, Rd g1 w1 u d → Rd g6 w5 u d := fun h => Rd.keep (((kB .free (by simp) (by simp)).trans frB.free).trans (k6 _ (by simp))) (fun i' k' h => frB.rho i' k' h) h
            exact ⟨m', n1, up n2, up n3⟩
          · rw [hperm.length_eq]; simp
        · cases h1
      cases ex with
      | normal => exact back q5
      | exit id =>
        simp only [blockS] at q5
        simp only [Exit.inBlock]
        split at q5
        · rename_i hid; rw [if_pos hid]; exact back q5
        · rename_i hid; rw [if_neg hid]; exact out _ _ q5 rel6 (by simp)
      | goto id => exact out _ _ q5 rel6 (by simp)
      | ret => exact out _ _ q5 rel6 (by simp)
      | panic ch => exact out _ _ q5 rel6 (by simp)
      | outgrown => exact out _ _ q5 rel6 (by simp)
end
end Go.Sh
set_option linter.unusedVariables false
set_option linter.unusedSimpArgs false
namespace Go.Sh

/-- A list of one's own, its value known or not. -/
def ownAt (st : St) (s : Nat) : Option (Option Value × Nat × List D) :=
  match st.tmps[s]? with
  | some (.own n xs) => some (none, n, xs)
  | some (.pin v n xs) => some (some v, n, xs)
  | _ => none

def ownSV : Option Value → Nat → List D → SV
  | none, n, xs => .own n xs
  | some v, n, xs => .pin v n xs

theorem ownAt_eq {st : St} {s : Nat} {p : Option Value} {n : Nat} {xs : List D} (h : ownAt st s = some (p, n, xs)) : st.tmps[s]? = some (ownSV p n xs) := by
  unfold ownAt at h
  split at h
  · cases h; assumption
  · cases h; assumption
  · cases h

theorem ownSV_big (p : Option Value) (n : Nat) (xs : List D) : bigK (ownSV p n xs) = 2 := by cases p <;> rfl

theorem ownSV_rs {g : Gh} {w : World} {tm : List SV} {val : Nat → Value} {t : Nat} {v : Value} {p : Option Value} {n : Nat} {xs : List D} : RS g w tm val t v (ownSV p n xs) ↔ (∀ v0, p = some v0 → v = v0) ∧ ROwn g w (.slot t) v n xs := by
  cases p with
  | none => exact ⟨fun h => ⟨nofun, h⟩, fun h => h.2⟩
  | some v0 => exact ⟨fun h => ⟨fun v1 e => by cases e; exact h.1, h.2⟩, fun h => ⟨h.1 v0 rfl, h.2⟩⟩

theorem ownSV_uses {t : Nat} {p : Option Value} {n : Nat} {xs : List D} {o : Own} : uses t (ownSV p n xs) o ↔ o = .free ∨ o = .lst (.slot t) := by cases p <;> rfl

/-- What is lent by a slot is no more known. -/
def lentBy (t0 : Nat) : SV → Bool
  | .lent (.slot s) _ _ | .lptr (.slot s) _ => s == t0
  | _ => false

def St.killL (st : St) (t0 : Nat) : St := { st with tmps := st.tmps.map fun s => if lentBy t0 s then .undef else s }

theorem St.killL_get {st : St} {t0 t : Nat} {s : SV} (h : (st.killL t0).tmps[t]? = some s) : s = .undef ∨ (st.tmps[t]? = some s ∧ lentBy t0 s = false) := by
  simp only [St.killL, List.getElem?_map, Option.map_eq_some_iff] at h
  obtain ⟨s', h1, h2⟩ := h
  split at h2
  · exact .inl h2.symm
  · rename_i hm
    subst h2
    exact .inr ⟨h1, by simpa using hm⟩

theorem St.killL_len (st : St) (t : Nat) : (st.killL t).tmps.length = st.tmps.length := by simp [St.killL]

/-- An own list gets new elements. -/
def St.setOwn (st : St) (s : Nat) (p : Option Value) (n : Nat) (xs : List D) : St := (st.killL s).set s (ownSV p n xs)

theorem uses_lent {t s0 : Nat} {s : SV} (hne : t ≠ s0) (hm : lentBy s0 s = false) (ho : uses t s (.lst (.slot s0))) : False := by
  cases s <;> simp [uses] at ho
  · exact hne ho.symm
  · subst ho; simp [lentBy] at hm
  · subst ho; simp [lentBy] at hm
  · exact hne ho.symm

section
variable {P : Program} {pu : Bool} {st : St} {ops : Array Oper} {k : Nat} {Q : St → Prop}

/-- An own list is written in place: what has changed lies in blocks of its own. -/
theorem Rel.setOwn {a : Act} {w w' : World} {g g' : Gh} (hr : Rel st a w g) {s : Nat} {p : Option Value} {n : Nat} {xs ys : List D} (hs : st.tmps[s]? = some (ownSV p n xs)) (hk : ∀ o, o ≠ .lst (.slot s) → Keep o g w g' w') (hρ : g'.ρ = g.ρ)
    (hn : ROwn g' w' (.slot s) (valOf a s) n ys) : Rel (st.setOwn s p n ys) a w' g' := by
  have hlt := get_lt hs
  have hp := (ownSV_rs.1 (hr.tmp s _ hs)).1
  refine Rel.step hr (by simp [St.setOwn, St.set, St.killL, hr.len]) hr.def0 (fun _ _ h => by rw [hρ]; exact h) (fun t s' hs' => ?_) (hr.hp.keep (fun o ho => hk o fun e => by subst e; exact ho.elim) (fun _ _ h => by rw [hρ]; exact h) (by rw [hρ]))
  by_cases ht : t = s
  · subst ht
    simp only [St.setOwn, St.set] at hs'
    rw [List.getElem?_set_self (by rw [St.killL_len]; exact hlt)] at hs'
    cases hs'
    exact .inr (.inl (ownSV_rs.2 ⟨hp, hn⟩))
  · simp only [St.setOwn, St.set, List.getElem?_set_ne (Ne.symm ht)] at hs'
    rcases St.killL_get hs' with e | ⟨e1, e2⟩
    · exact .inl e
    · refine .inr (.inr ⟨e1, rfl, fun o ho => hk o fun e => ?_, fun s' hd => ⟨rfl, fun x hx hb => ?_⟩⟩)
      · subst e; exact uses_lent ht e2 ho
      · by_cases h1 : s' = s
        · subst h1
          rw [hs] at hx; cases hx
          exact ⟨ownSV p n ys, by simp only [St.setOwn, St.set]; rw [List.getElem?_set_self (by rw [St.killL_len]; exact hlt)], by rw [ownSV_big, ownSV_big]⟩
        · refine ⟨x, ?_, rfl⟩
          simp only [St.setOwn, St.set, List.getElem?_set_ne (Ne.symm h1), St.killL, List.getElem?_map, hx, Option.map_some]
          have : lentBy s x = false := by cases x <;> simp [bigK] at hb <;> rfl
          simp [this]

/-! ## The same value once more -/

def alsAt (ops : Array Oper) (k : Nat) (st : St) : Option (Option Tmp × Nat) :=
  match opAt ops k st with
  | some o => match o.op with
    | .move (.tmp s) => match ownAt st s with
      | some _ => if o.dst != some s then some (o.dst, s) else none
      | none => none
    | _ => none
  | none => none

theorem BAt.als {d : Option Tmp} {s : Nat} (h : alsAt ops k st = some (d, s)) : BAt P ops k st d (.als s) := by
  unfold alsAt at h
  split at h
  · rename_i o ho
    split at h
    · rename_i s' hop
      split at h
      · rename_i p hp
        split at h
        · rename_i hd
          simp only [Option.some.injEq, Prod.mk.injEq] at h
          obtain ⟨rfl, rfl⟩ := h
          obtain ⟨g1, g2⟩ := opAt_inv ho
          obtain ⟨pv, n, xs⟩ := p
          refine ⟨o, g1, g2, fun a w g hr => ⟨valOf a s', ⟨⟨_, ownAt_eq hp, ownSV_big _ _ _⟩, rfl⟩, fun w' _ => ?_⟩, by simpa [locOk] using hd, rfl⟩
          unfold execOp; rw [hop]; rfl
        · cases h
      · cases h
    · cases h
  · cases h

/-! ## An element, written -/

def epAt (P : Program) (ops : Array Oper) (k : Nat) (st : St) : Option (Option Tmp × Nat × Nat × List D × Int) :=
  match opAt ops k st with
  | some o => match o.op with
    | .indexAddr T (.tmp t) i => match st.tmps[t]?, intOf? st i with
      | some (.als s), some (_, j) => match ownAt st s with
        | some (_, n, xs) => if n ≠ 0 ∧ n = elemW P T ∧ (arrayOf P T).isNone = true ∧ o.dst ≠ some s then some (o.dst, s, n, xs, j) else none
        | none => none
      | _, _ => none
    | _ => none
  | none => none

theorem BAt.ep {α : Type} {enc : α → D} {xs : List α} {x : α} {d : Option Tmp} {s n : Nat} {j : Int} (hx : idx xs j = some x) (h : epAt P ops k st = some (d, s, n, xs.map enc, j)) : BAt P ops k st d (.ep s n j.toNat) := by
  unfold epAt at h
  split at h
  · rename_i o ho
    split at h
    · rename_i T t i hop
      split at h
      · rename_i s' kk j' hs hi
        split at h
        · rename_i p n' xs' hown
          split at h
          · rename_i hc
            simp only [Option.some.injEq, Prod.mk.injEq] at h
            obtain ⟨rfl, rfl, rfl, rfl, rfl⟩ := h
            obtain ⟨g1, g2⟩ := opAt_inv ho
            obtain ⟨hn0, hnT, hna, hd⟩ := hc
            refine ⟨o, g1, g2, fun a w g hr => ?_, by simpa [locOk] using hd, rfl⟩
            have hO := (ownSV_rs.1 (hr.tmp s' _ (ownAt_eq hown))).2
            obtain ⟨-, hal⟩ : _ ∧ valOf a t = valOf a s' := hr.tmp t _ hs
            obtain ⟨h0, hj⟩ := idx_inv hx
            have hlt : j'.toNat < xs.length := get_lt hj
            rcases hO with ⟨he, -⟩ | ⟨kb, off, cap, c, T0, us, hv, hk, hb, hl, hz, hw, hcc, hrr⟩
            · rw [List.map_eq_nil_iff] at he; subst he; simp at hlt
            · -- the element's type
              unfold elemW at hnT
              split at hnT
              · rename_i e hu
                refine ⟨.pointer (some ⟨kb, off + j'.toNat * n', none⟩), ⟨⟨_, ownAt_eq hown, ownSV_big _ _ _⟩, kb, off, _, cap, hv, rfl⟩, fun w' hup => ?_⟩
                have hidx : a.eval i = .int kk j' := by
                  unfold intOf? at hi
                  split at hi
                  · rename_i k1 n1 hv1
                    cases hi
                    exact valD_leaf hr hv1 rfl
                  · cases hi
                unfold execOp; rw [hop]
                have hev : a.eval (.tmp t) = .slice (some ⟨kb, off, none⟩) (xs.map enc).length cap := hal.trans hv
                have hlt' : j' < ((xs.map enc).length : Int) := by rw [List.length_map]; omega
                subst hnT
                simp only [hev, hidx, Sem.run_bind, indexAddr_sl hu hn0 h0 hlt' w', Result.andThen_ok, Sem.run_pure]
              · exact absurd hnT hn0
          · cases h
        · cases h
      · cases h
    · cases h
  · cases h

def sepAt (P : Program) (ops : Array Oper) (k : Nat) (st : St) : Option (Nat × Nat × Option Value × List D × Nat × D) :=
  match opAt ops k st with
  | some o => match o.op with
    | .store T (.tmp t) y => match st.tmps[t]?, valD st y with
      | some (.ep s n j), some d => match ownAt st s with
        | some (p, n', xs) => if n' = n ∧ (P.underlying T).isNone = false ∧ d.cells.length = n ∧ P.cellsOf T = n ∧ o.dst = none then some (s, n, p, xs, j, d) else none
        | none => none
      | _, _ => none
    | _ => none
  | none => none

theorem list_set_get {α : Type} {l : List α} {i j : Nat} {x y : α} (h : (l.set i x)[j]? = some y) : (i = j ∧ x = y ∧ j < l.length) ∨ (i ≠ j ∧ l[j]? = some y) := by
  by_cases e : i = j
  · subst e
    have hlt := get_lt h
    rw [List.length_set] at hlt
    rw [List.getElem?_set_self hlt] at h
    exact .inl ⟨rfl, by simpa using h, hlt⟩
  · rw [List.getElem?_set_ne e] at h; exact .inr ⟨e, h⟩

theorem OWk.sep {α : Type} {enc : α → D} {xs : List α} {x : α} {s n j : Nat} {p : Option Value} (m : Nat) (H : List SObj) (L : List Nat) (l : List (Nat × SV)) (hj : decide (j < xs.length) = true) (h : sepAt P ops k st = some (s, n, p, xs.map enc, j, enc x))
    (hst : pickR m L (st.setOwn s p n ((xs.set j x).map enc)) = some (l, H)) (hn : OWk P pu ops (k + 1) (sp m l H) Q) : OWk P pu ops k st Q := by
  have hj := of_decide_eq_true hj
  unfold sepAt at h
  split at h
  · rename_i o ho
    split at h
    · rename_i T t y hop
      split at h
      · rename_i s' n' j' d hs hy
        split at h
        · rename_i p' n2 xs' hown
          split at h
          · rename_i hc
            simp only [Option.some.injEq, Prod.mk.injEq] at h
            obtain ⟨rfl, rfl, rfl, rfl, rfl, rfl⟩ := h
            obtain ⟨rfl, hu, hsz, hcT, hd⟩ := hc
            obtain ⟨g1, g2⟩ := opAt_inv ho
            refine OWk.e g1 g2 (OpS.skip fun a w g hr => ?_) (OWk.keep L (keepR_of_pick hst) hn)
            obtain ⟨-, hO⟩ := ownSV_rs.1 (hr.tmp s' _ (ownAt_eq hown))
            obtain ⟨-, k0, off0, len0, cap0, hv0, hep⟩ := hr.tmp t _ hs
            rcases hO with ⟨he, -⟩ | ⟨kb, off, cap, c, T0, us, hv, hk, hb, hl, hz, hw, hcc, hrr⟩
            · rw [List.map_eq_nil_iff] at he; subst he; simp at hj
            · rw [hv] at hv0
              simp only [Value.slice.injEq, Option.some.injEq, Addr.mk.injEq] at hv0
              obtain ⟨⟨rfl, rfl, -⟩, rfl, rfl⟩ := hv0
              have hrd := valD_d hr hy
              obtain ⟨c1, c2⟩ := hrd.cells
              have hone : ∀ v ∈ (a.eval y).cells.toList, v.oneCell' = true := fun v hv => by
                obtain ⟨i, hi⟩ := List.mem_iff_getElem?.1 hv
                have hlt : i < (enc x).cells.length := by rw [← c1]; have := get_lt hi; simpa using this
                obtain ⟨u, u1, u2, u3⟩ := c2 i (enc x).cells[i] (by simp [hlt])
                have : u = v := by
                  have hi' : (a.eval y).cells[i]? = some v := by simpa using hi
                  rw [u1] at hi'; exact Option.some.inj hi'
                rw [← this]; exact u3
              have hroom : off + j' * n2 + n2 ≤ c.size := by
                have h1 : (j' + 1) * n2 ≤ cap * n2 := Nat.mul_le_mul_right _ (by rw [List.length_map] at hl; omega)
                rw [Nat.succ_mul] at h1
                omega
              obtain ⟨w', r1, r2, r3, c', r4, r5, r6⟩ := run_storeCells' (P := P) kb (off + j' * n2) T0 (a.eval y).cells.toList 0 c w hb (by simp [c1]; omega) hone
              have hkp : ∀ o', o' ≠ .lst (.slot s') → Keep o' g w g w' := fun o' ho => Keep.block hk ho r3
              have hkf : Keep .free g w g w' := hkp _ (by simp)
              refine ⟨w', g, ?_, ?_, Fr.keepBut (l := .slot s') (by simp) (by rw [r2]; exact Nat.le_refl _) hkp rfl (storeCells_os (P := P) kb (off + j' * n2) T0 (a.eval y).cells.toList 0 c w w' hb (by simp [c1]; omega) hone r1)⟩
              · unfold execOp; rw [hop]
                have hev : a.eval (.tmp t) = .pointer (some ⟨kb, off + j' * n2, none⟩) := hep
                simp only [Instr.storeAt, Sem.run_bind, hev, Instr.sureAddr, Sem.run_pure, Result.andThen_ok, storeVar, run_sizeOf' hu]
                rw [if_neg (by rw [c1, hcT]; simp [hsz]), r1]
                rfl
              · rw [hd]
                refine hr.setOwn (ownAt_eq hown) hkp rfl (.inr ⟨kb, off, cap, c', T0, fun i q => if i = j' then (a.eval y).cells.getD q undef else us i q, by rw [hv]; simp, hk, r4, by simpa using hl, by rw [r5]; exact hz, fun i z hi => ?_, fun i z hi q u hq => ?_, fun i z hi q u hq => ?_⟩)
                · simp only [List.getElem?_map, Option.map_eq_some_iff] at hi
                  obtain ⟨z', hi, rfl⟩ := hi
                  rcases list_set_get hi with ⟨-, rfl, -⟩ | ⟨-, hi⟩
                  · exact hsz
                  · exact hw i (enc z') (by simp [hi])
                · simp only [List.getElem?_map, Option.map_eq_some_iff] at hi
                  obtain ⟨z', hi, rfl⟩ := hi
                  have hql : q < n2 := by
                    rcases list_set_get hi with ⟨-, rfl, -⟩ | ⟨-, hi⟩
                    · have := get_lt hq; omega
                    · have := get_lt hq; rw [hw i (enc z') (by simp [hi])] at this; exact this
                  rcases list_set_get hi with ⟨e, rfl, -⟩ | ⟨hne, hi⟩
                  · subst e
                    obtain ⟨u', u1, u2, u3⟩ := c2 q u hq
                    have hg : (a.eval y).cells.getD q undef = u' := by simp [Array.getD_eq_getD_getElem?, u1]
                    simp only [if_true, hg]
                    refine ⟨?_, u3⟩
                    rw [r6, if_pos (by simp [c1]; omega)]
                    rw [show off + j' * n2 + q - (off + j' * n2 + 0) = q by omega]
                    simpa using u1
                  · obtain ⟨u1, u2⟩ := hcc i (enc z') (by simp [hi]) q u hq
                    simp only [if_neg (Ne.symm hne)]
                    refine ⟨?_, u2⟩
                    have hapart : off + i * n2 + q < off + j' * n2 ∨ off + j' * n2 + n2 ≤ off + i * n2 + q := by
                      rcases Nat.lt_or_gt_of_ne hne with h | h
                      · have : (j' + 1) * n2 ≤ i * n2 := Nat.mul_le_mul_right _ h
                        rw [Nat.succ_mul] at this; omega
                      · have : (i + 1) * n2 ≤ j' * n2 := Nat.mul_le_mul_right _ h
                        rw [Nat.succ_mul] at this; omega
                    rw [r6, if_neg (by simp [c1]; omega)]
                    exact u1
                · simp only [List.getElem?_map, Option.map_eq_some_iff] at hi
                  obtain ⟨z', hi, rfl⟩ := hi
                  rcases list_set_get hi with ⟨e, rfl, -⟩ | ⟨hne, hi⟩
                  · subst e
                    obtain ⟨u', u1, u2, u3⟩ := c2 q u hq
                    have hg : (a.eval y).cells.getD q undef = u' := by simp [Array.getD_eq_getD_getElem?, u1]
                    simp only [if_true, hg]
                    exact Rd.keep hkf (fun _ _ h => h) u2
                  · simp only [if_neg (Ne.symm hne)]
                    exact Rd.keep hkf (fun _ _ h => h) (hrr i (enc z') (by simp [hi]) q u hq)
          · cases h
        · cases h
      · cases h
    · cases h
  · cases h

/-! ## Functions that write their one argument in place -/

def IC (P : Program) (f : FuncId) (n : Nat) (xs ys : List D) : Prop :=
  ∀ (H : List SObj) (w : World) (g : Gh) (v : Value), ROwn g w (.slot 0) v n xs → RH g w H → Calls P f #[v] w fun e w' => e = .returned (.tuple #[]) ∧ ∃ g', ROwn g' w' (.slot 0) v n ys ∧ RH g' w' H ∧ Fr true g w g' w'

theorem IC.of_SW {f : FuncId} {fn : Func} {c : Code} {n : Nat} {xs ys : List D} (hf : P.funcs[f]? = some fn) (hb : fn.body = some c) (hr : fn.results = #[])
    (h : ∀ H v, SW P true c (initSt fn.ntmps [.pin v n xs] H) (fun e st' => (e = .normal ∨ e = .ret) ∧ st'.tmps[0]? = some (.pin v n ys) ∧ st'.H = H)) : IC P f n xs ys := by
  intro H w g v hO hH
  have hA : RArgs g w #[v] [.own n xs] := ⟨rfl, fun j s hj => by
    match j, hj with
    | 0, hj => simp at hj; subst hj; exact ⟨v, rfl, hO⟩
    | j + 1, hj => simp at hj⟩
  have r0 := Rel.init hA hH fn.ntmps
  have r1 : Rel (initSt fn.ntmps [.pin v n xs] H) { tmps := #[v] ++ Array.replicate (fn.ntmps - (#[v] : Array Value).size) undef, defers := [] } w g := by
    refine Rel.step r0 (by rw [r0.len]; simp [initSt]) r0.def0 (fun _ _ h => h) (fun t s hs => ?_) r0.hp
    cases t with
    | zero =>
      simp [initSt] at hs
      subst hs
      refine .inr (.inl ⟨?_, r0.tmp 0 (.own n xs) (by simp [initSt])⟩)
      simp only [valOf, Array.getD_eq_getD_getElem?]
      rw [Array.getElem?_append_left (by simp)]
      rfl
    | succ t =>
      refine .inr (.inr ⟨by simpa [initSt] using hs, rfl, fun _ _ => Keep.refl _ _ _, fun s' hd => ⟨rfl, fun x hx hb => ?_⟩⟩)
      cases s' with
      | zero => simp [initSt] at hx; subst hx; exact ⟨.pin v n xs, by simp [initSt], rfl⟩
      | succ s' => exact ⟨x, by simpa [initSt] using hx, rfl⟩
  refine calls_of_wp hf hb (Code.wp_mono (fun e a' w' hh => ?_) (h H v _ w g r1))
  obtain ⟨st', g', ⟨he, h0, hH'⟩, hrel, hfr⟩ := hh
  have hrun := results_run (P := P) (fn := fn) (tm := a'.tmps) (w := w') (vs := []) (by simp [hr]) (fun j rv hj => by rw [hr] at hj; simp at hj)
  obtain ⟨hv, hO'⟩ : valOf a' 0 = v ∧ ROwn g' w' (.slot 0) (valOf a' 0) n ys := hrel.tmp 0 _ h0
  rw [hv] at hO'
  have fin : Ending.returned (if h : ([] : List Value).toArray.size = 1 then ([] : List Value).toArray[0] else .tuple ([] : List Value).toArray) = .returned (.tuple #[]) ∧ ∃ g', ROwn g' w' (.slot 0) v n ys ∧ RH g' w' H ∧ Fr true g w g' w' :=
    ⟨rfl, g', hO', by rw [← hH']; exact hrel.hp, hfr⟩
  rcases he with rfl | rfl
  · exact ⟨hrel.def0, _, hrun, fin⟩
  · exact ⟨hrel.def0, _, hrun, fin⟩

/-- What the callee may see: the list that is handed to it, and the shadow heap. -/
def icOw (s : Nat) : Own → Own
  | .free => .free
  | .obj i => .obj i
  | .lst (.hcell i j) => .lst (.hcell i j)
  | .lst (.slot t) => if t = s then .lst (.slot 0) else .out
  | _ => .out

/-- Whose a block is behind such a call. -/
def icBack (m s : Nat) (ow ow' : Nat → Own) (k : Nat) : Own :=
  if k < m ∧ icOw s (ow k) = .out then ow k else
  match ow' k with
  | .free => .free
  | .obj i => .obj i
  | .lst (.hcell i j) => .lst (.hcell i j)
  | .lst (.slot 0) => .lst (.slot s)
  | _ => .out

def icAt (P : Program) (ops : Array Oper) (k : Nat) (st : St) : Option (FuncId × Option Tmp × Nat × Option Value × Nat × List D) :=
  match opAt ops k st with
  | some o => match o.op with
    | .call c => match c.callee, c.args.toList with
      | .value fo, [.tmp t] => match valD st fo, st.tmps[t]? with
        | some (.fn (.func f) [] []), some (.als s) => match ownAt st s with
          | some (p, n, xs) => if isFn P f = true ∧ o.dst ≠ some s then some (f, o.dst, s, p, n, xs) else none
          | none => none
        | _, _ => none
      | _, _ => none
    | _ => none
  | none => none

theorem OWk.ic {f : FuncId} {d : Option Tmp} {s n : Nat} {p : Option Value} {xs ys : List D} (m : Nat) (H : List SObj) (L : List Nat) (l : List (Nat × SV)) (hc : IC P f n xs ys) (h : icAt P ops k st = some (f, d, s, p, n, xs))
    (hst : pickR m L ((st.setOwn s p n ys).put d (.tup [])) = some (l, H)) (hn : OWk P pu ops (k + 1) (sp m l H) Q) : OWk P pu ops k st Q := by
  unfold icAt at h
  split at h
  · rename_i o ho
    split at h
    · rename_i c hop
      split at h
      · rename_i fo t hcal hargs
        split at h
        · rename_i f' s' hfo hs
          split at h
          · rename_i p' n' xs' hown
            split at h
            · rename_i hcond
              simp only [Option.some.injEq, Prod.mk.injEq] at h
              obtain ⟨rfl, rfl, rfl, rfl, rfl, rfl⟩ := h
              obtain ⟨hfn, hd⟩ := hcond
              obtain ⟨g1, g2⟩ := opAt_inv ho
              unfold OWk OW at hn ⊢
              rw [drop_cons g1]
              intro a w g hr Qc hq
              unfold wpList
              rw [wantS_sound hr g2, if_pos rfl]
              refine .inl ?_
              have hrf := valD_d hr hfo
              have hev : a.eval fo = .func (.func f') #[] #[] := by
                generalize a.eval fo = v at hrf
                cases hrf with
                | fn hl1 hl2 us1 us2 hc1 hr1 hc2 hr2 =>
                  rw [Array.eq_empty_of_size_eq_zero (xs := _) hl1, Array.eq_empty_of_size_eq_zero (xs := _) hl2]
              have hal : a.eval (.tmp t) = valOf a s' := (hr.tmp t _ hs).2
              have hO := (ownSV_rs.1 (hr.tmp s' _ (ownAt_eq hown))).2
              have hexec : (execOp a.eval o).run P w = .ok (.enter f' #[valOf a s']) w := by
                unfold execOp
                rw [hop]
                have := run_call (ty := o.type) (P := P) (c := c) hcal hev hfn w
                have hca : c.args = #[.tmp t] := by rw [← Array.toArray_toList (xs := c.args), hargs]
                rw [hca] at this
                simpa [hal] using this
              unfold Oper.wp
              rw [hexec, Oper.upon_enter]
              -- the callee's ghosts
              let gc := g.ren (icOw s')
              have hOc : ROwn gc w (.slot 0) (valOf a s') n' xs' := ROwn.ren rfl (by simp [icOw]) hO
              have hHc : RH gc w st.H := by
                refine RH.keep (g := g) (w := w) (fun o' ho' => Keep.ren ?_) (fun _ _ h => h) rfl hr.hp
                cases o' with
                | lst l => cases l <;> simp only [usesH] at ho' <;> rfl
                | _ => simp only [usesH] at ho' <;> rfl
              refine (hc st.H w gc _ hOc hHc).mono fun e w' hh => ?_
              obtain ⟨rfl, g', hO', -, hf⟩ := hh
              let g2 : Gh := ⟨icBack w.heap.size s' g.ow g'.ow, g'.ρ⟩
              have hρ : g'.ρ = g.ρ := hf.len rfl
              have hid : ∀ (k' : Nat) (b : Obj), icOw s' (g.ow k') = .out → w.heap[k']? = some b → g2.ow k' = g.ow k' ∧ w'.heap[k']? = some b ∧ g'.ow k' = .out := fun k' b h1 h2 => by
                obtain ⟨c1, c2⟩ := hf.out k' b h1 h2
                exact ⟨by simp [g2, icBack, arr_lt h2, h1], c2, c1⟩
              have vis : ∀ (k' : Nat), icOw s' (g.ow k') ≠ .out → g2.ow k' = (match g'.ow k' with | .free => .free | .obj i => .obj i | .lst (.hcell i j) => .lst (.hcell i j) | .lst (.slot 0) => .lst (.slot s') | _ => .out) := fun k' h1 => by
                show icBack _ _ _ _ _ = _
                unfold icBack
                rw [if_neg (fun h => h1 h.2)]
              have hkeep : ∀ o', o' ≠ .lst (.slot s') → Keep o' g w g2 w' := fun o' ho' k' b h1 h2 => by
                cases o' with
                | free =>
                  obtain ⟨c1, c2⟩ := hf.free k' b (by simp [gc, Gh.ren, h1, icOw]) h2
                  exact ⟨by rw [vis k' (by simp [h1, icOw]), c1], c2⟩
                | obj i =>
                  obtain ⟨c1, c2⟩ := hf.obj rfl i k' b (by simp [gc, Gh.ren, h1, icOw]) h2
                  exact ⟨by rw [vis k' (by simp [h1, icOw]), c1], c2⟩
                | out => obtain ⟨c1, c2, -⟩ := hid k' b (by simp [h1, icOw]) h2; exact ⟨c1.trans h1, c2⟩
                | box t => obtain ⟨c1, c2, -⟩ := hid k' b (by simp [h1, icOw]) h2; exact ⟨c1.trans h1, c2⟩
                | lst l0 =>
                  cases l0 with
                  | hcell i j =>
                    obtain ⟨c1, c2⟩ := hf.hcell rfl i j k' b (by simp [gc, Gh.ren, h1, icOw]) h2
                    exact ⟨by rw [vis k' (by simp [h1, icOw]), c1], c2⟩
                  | slot t =>
                    have hne : t ≠ s' := fun e => ho' (by rw [e])
                    obtain ⟨c1, c2, -⟩ := hid k' b (by simp [h1, icOw, hne]) h2; exact ⟨c1.trans h1, c2⟩
                  | _ => obtain ⟨c1, c2, -⟩ := hid k' b (by simp [h1, icOw]) h2; exact ⟨c1.trans h1, c2⟩
              -- the list, back
              have notHid : ∀ (k' : Nat), g'.ow k' ≠ .out → w'.heap[k']? ≠ none → ¬ (k' < w.heap.size ∧ icOw s' (g.ow k') = .out) := fun k' h1 _ h2 => by
                have : ∃ b, w.heap[k']? = some b := ⟨w.heap[k'], by simp [h2.1]⟩
                obtain ⟨b, hb⟩ := this
                exact h1 (hid k' b h2.2 hb).2.2
              have hb0 : Keep .free g' w' g2 w' := fun k' b h1 h2 => by
                refine ⟨?_, h2⟩
                show icBack _ _ _ _ _ = _
                unfold icBack
                rw [if_neg (notHid k' (by rw [h1]; simp) (by rw [h2]; simp)), h1]
              have hO2 : ROwn g2 w' (.slot s') (valOf a s') n' ys := by
                rcases hO' with h | ⟨kb, off, cap, cc, T, us, hv, hk, hb, hl, hz, hw, hcc, hrr⟩
                · exact .inl h
                · refine .inr ⟨kb, off, cap, cc, T, us, hv, ?_, hb, hl, hz, hw, hcc, fun i x hx j y hy => (hrr i x hx j y hy).keep hb0 (fun _ _ h => h)⟩
                  show icBack _ _ _ _ _ = _
                  unfold icBack
                  rw [if_neg (notHid kb (by rw [hk]; simp) (by rw [hb]; simp)), hk]
                  rfl
              have hrel := (hr.setOwn (ownAt_eq hown) hkeep hρ hO2).putLight o.dst (v := .tuple #[]) (s := .tup []) ⟨#[], rfl, rfl, by simp⟩
              refine hn _ w' g2 (hrel.keepR (keepR_of_pick hst)) Qc fun st' a' w2 g3 q r f => hq st' a' w2 g3 q r ((Fr.keepBut (l := .slot s') (by simp) hf.size hkeep hρ hf.os).trans f)
            · cases h
          · cases h
        · cases h
      · cases h
    · cases h
  · cases h

/-! ## A list asked whether it is nil -/

def eqOp : BinOp → Option Bool
  | .eql => some true
  | .neq => some false
  | _ => none

def nqAt (P : Program) (ops : Array Oper) (k : Nat) (st : St) : Option (Option Tmp × Bool × List D) :=
  match opAt ops k st with
  | some o => match o.op with
    | .binOp op T x (.const (.slice none 0 0)) _ => match eqOp op, listOf st x, P.underlying T with
      | some e, some (_, _, xs), some (.slice _) => some (o.dst, e, xs)
      | _, _, _ => none
    | _ => none
  | none => none

theorem OWk.nilq {xs : List D} {d : Option Tmp} {e : Bool} (m : Nat) (H : List SObj) (L : List Nat) (l : Bool → List (Nat × SV)) (h : nqAt P ops k st = some (d, e, xs)) (hst : ∀ b, pickR m L (st.put d (.d (.bool b))) = some (l b, H))
    (hn : ∀ b, (b = e → xs = []) → OWk P pu ops (k + 1) (sp m (l b) H) Q) : OWk P pu ops k st Q := by
  unfold nqAt at h
  split at h
  · rename_i o ho
    split at h
    · rename_i op T x yT hop
      split at h
      · rename_i e' lo no xs' eT hop1 hl hT
        simp only [Option.some.injEq, Prod.mk.injEq] at h
        obtain ⟨rfl, rfl, rfl⟩ := h
        obtain ⟨g1, g2⟩ := opAt_inv ho
        have key : ∀ (a : Act) (w : World) (g : Gh), Rel st a w g → ∃ b : Bool, (b = e' → xs' = []) ∧ (execOp a.eval o).run P w = .ok (.value (.bool b)) w := by
          intro a w g hr
          have hL := listOf_sound hr hl
          obtain ⟨base, len, cap, hv, hnil⟩ : ∃ base len cap, a.eval x = .slice base len cap ∧ (base = none → xs' = []) := by
            rcases hL with ⟨rfl, b0, cap, hv⟩ | ⟨kb, off, cap, c, T0, fz, us, hv, -⟩
            · exact ⟨b0, 0, cap, hv, fun _ => rfl⟩
            · exact ⟨_, _, cap, hv, by simp⟩
          have hy : a.eval (.const (.slice none 0 0)) = .slice none 0 0 := rfl
          have hEq : (Op.equal T (.slice base len cap) (.slice none 0 0)).run P w = .ok base.isNone w := by
            simp [Op.equal, Op.maxDepth, Lib.run_equalIn_slice_nil w 9999 T eT base len cap 0 0 hT]
          cases op <;> simp only [eqOp, reduceCtorEq, Option.some.injEq] at hop1
          · subst hop1
            refine ⟨base.isNone, fun hb => hnil (by cases base <;> simp_all), ?_⟩
            unfold execOp; rw [hop]
            have e1 : eqGuard .eql T x (.const (.slice none 0 0)) (.slice base len cap) (.slice none 0 0) = pure () := rfl
            have e2 : binOp .eql T (.slice base len cap) (.slice none 0 0) = (do pure (.bool (← Op.equal T (.slice base len cap) (.slice none 0 0))) : Sem Value) := rfl
            simp only [hv, hy, e1, e2, hEq, Sem.run_bind, Sem.run_pure, Result.andThen_ok]
          · subst hop1
            refine ⟨!base.isNone, fun hb => hnil (by cases base <;> simp_all), ?_⟩
            unfold execOp; rw [hop]
            have e1 : eqGuard .neq T x (.const (.slice none 0 0)) (.slice base len cap) (.slice none 0 0) = pure () := rfl
            have e2 : binOp .neq T (.slice base len cap) (.slice none 0 0) = (do pure (.bool (!(← Op.equal T (.slice base len cap) (.slice none 0 0)))) : Sem Value) := rfl
            simp only [hv, hy, e1, e2, hEq, Sem.run_bind, Sem.run_pure, Result.andThen_ok]
        unfold OWk OW at hn ⊢
        rw [drop_cons g1]
        intro a w g hr Qc hq
        obtain ⟨b, hb, hrun⟩ := key a w g hr
        unfold wpList
        rw [wantS_sound hr g2, if_pos rfl]
        refine .inl ?_
        unfold Oper.wp
        rw [hrun, Oper.upon_value]
        exact hn b hb _ w g ((hr.putLight o.dst (v := .bool b) (s := .d (.bool b)) .bool).keepR (keepR_of_pick (hst b))) Qc hq
      · cases h
    · cases h
  · cases h
end
end Go.Sh
set_option linter.unusedVariables false
set_option linter.unusedSimpArgs false
namespace Go.Sh

theorem ev_ne {a : Act} {d t : Nat} {v : Value} (h : d ≠ t) : (a.put (some d) v).eval (.tmp t) = a.eval (.tmp t) := eval_put_other (fun e => h (by injection e with e; exact e.symm))
theorem ev_eq {a : Act} {d : Nat} {v : Value} (h : d < a.tmps.size) : (a.put (some d) v).eval (.tmp d) = v := valOf_put_same h
theorem put_sz {a : Act} {d : Option Tmp} {v : Value} : (a.put d v).tmps.size = a.tmps.size := put_size

section
variable {P : Program} {pu : Bool} {st : St} {ops : Array Oper}

/-- An operation, as far as it matters. -/
def isOp (o : Oper) (d : Option Tmp) (op : Op) : Prop := o.dst = d ∧ o.op = op ∧ o.guard = none

theorem still_val {o : Oper} {rest : List Oper} {a : Act} {w : World} {v : Value} {Q : Act → Prop} {d : Option Tmp} {op : Op} (ho : isOp o d op) (hrun : ∀ ty, (execOp a.eval { o with op := op, type := ty }).run P w = .ok (.value v) w) (h : wpStill P ops w Q rest (a.put d v)) :
    wpStill P ops w Q (o :: rest) a := by
  obtain ⟨h1, h2, h3⟩ := ho
  unfold wpStill
  rw [show Region.wanted o (yielded ops a.tmps) = true by unfold Region.wanted; rw [h3], if_pos rfl]
  unfold Oper.still
  have := hrun o.type
  subst h2
  rw [this, Oper.stillUpon_value, h1]
  exact h

theorem list_val {o : Oper} {rest : List Oper} {a : Act} {w w' : World} {v : Value} {Q : Exit → Act → World → Prop} {d : Option Tmp} {op : Op} (ho : isOp o d op) (hrun : ∀ ty, (execOp a.eval { o with op := op, type := ty }).run P w = .ok (.value v) w') (h : wpList P ops Q rest (a.put d v) w') :
    wpList P ops Q (o :: rest) a w := by
  obtain ⟨h1, h2, h3⟩ := ho
  have := hrun o.type
  subst h2
  subst h1
  exact wpList_val h3 this h

theorem x_move {a : Act} {w : World} {o : Oper} {x : Operand} {ty : TypeId} : (execOp a.eval { o with op := .move x, type := ty }).run P w = .ok (.value (a.eval x)) w := rfl
theorem x_assign {a : Act} {w : World} {o : Oper} {x : Operand} {ty : TypeId} : (execOp a.eval { o with op := .assign x, type := ty }).run P w = .ok (.value (a.eval x)) w := rfl

theorem addr_add0 (k off : Nat) : (⟨k, off, none⟩ : Addr).add 0 = ⟨k, off, none⟩ := by simp [Addr.add_lit]

/-- s[:i], s[i:]: exactly. -/
theorem run_sliceHi {T e : TypeId} (hu : P.underlying T = some (.slice e)) (hz : P.cellsOf e ≠ 0) {k off len cap : Nat} {i : Int} {ik : IntKind} (h0 : 0 ≤ i) (h1 : i ≤ cap) (w : World) :
    (Instr.sliceAt T (.slice (some ⟨k, off, none⟩) len cap) none (some (.int ik i)) none).run P w = .ok (.slice (some ⟨k, off, none⟩) i.toNat cap) w := by
  simp [Instr.sliceAt, Instr.slice, Instr.sliceBounds, Instr.sliceBound, asIntOf, run_underlying hu, h0, h1, sizeOf_ne hz, addr_add0]

theorem run_sliceLo {T e : TypeId} (hu : P.underlying T = some (.slice e)) (hz : P.cellsOf e ≠ 0) {k off len cap : Nat} {i : Int} {ik : IntKind} (h0 : 0 ≤ i) (h1 : i ≤ len) (w : World) :
    (Instr.sliceAt T (.slice (some ⟨k, off, none⟩) len cap) (some (.int ik i)) none none).run P w = .ok (.slice (some ⟨k, if cap = i.toNat then off else off + i.toNat * P.cellsOf e, none⟩) (len - i.toNat) (cap - i.toNat)) w := by
  simp [Instr.sliceAt, Instr.slice, Instr.sliceBounds, Instr.sliceBound, asIntOf, run_underlying hu, h0, h1, sizeOf_ne hz, Addr.add_lit]
  split <;> rfl

theorem RFlat.get {g : Gh} {w : World} {a : Array Value} {n : Nat} {xs : List D} (h : RFlat g w a n xs) : a.size = xs.length * n := h.1

theorem RFlat.take {g : Gh} {w : World} {a : Array Value} {n : Nat} {xs : List D} (h : RFlat g w a n xs) {i : Nat} (hi : i ≤ xs.length) : RFlat g w (a.extract 0 (i * n)) n (xs.take i) := by
  obtain ⟨h1, h2, h3⟩ := h
  have hin : i * n ≤ xs.length * n := Nat.mul_le_mul_right _ hi
  refine ⟨by simp [h1, Nat.min_eq_left hi, Nat.min_eq_left hin], fun p x hx => ?_, fun p x hx q y hy => ?_⟩
  · rw [List.getElem?_take] at hx
    split at hx
    · exact h2 p x hx
    · cases hx
  · rw [List.getElem?_take] at hx
    split at hx
    · rename_i hp
      obtain ⟨u, u1, u2⟩ := h3 p x hx q y hy
      have hq : q < n := by rw [← h2 p x hx]; exact get_lt hy
      have : (p + 1) * n ≤ i * n := Nat.mul_le_mul_right _ hp
      rw [Nat.succ_mul] at this
      refine ⟨u, ?_, u2⟩
      rw [Array.getElem?_extract, if_pos (by rw [h1]; omega), Nat.zero_add]
      exact u1
    · cases hx

theorem RFlat.drop {g : Gh} {w : World} {a : Array Value} {n : Nat} {xs : List D} (h : RFlat g w a n xs) {i : Nat} (hi : i ≤ xs.length) : RFlat g w (a.extract (i * n) (xs.length * n)) n (xs.drop i) := by
  obtain ⟨h1, h2, h3⟩ := h
  have hin : i * n ≤ xs.length * n := Nat.mul_le_mul_right _ hi
  refine ⟨by simp [h1, Nat.sub_mul], fun p x hx => ?_, fun p x hx q y hy => ?_⟩
  · rw [List.getElem?_drop] at hx
    exact h2 _ x hx
  · rw [List.getElem?_drop] at hx
    obtain ⟨u, u1, u2⟩ := h3 _ x hx q y hy
    have hq : q < n := by rw [← h2 _ x hx]; exact get_lt hy
    have hlt := get_lt hx
    have : (i + p + 1) * n ≤ xs.length * n := Nat.mul_le_mul_right _ hlt
    rw [Nat.succ_mul, Nat.add_mul] at this
    refine ⟨u, ?_, u2⟩
    rw [Array.getElem?_extract, if_pos (by rw [h1]; omega)]
    rw [Nat.add_mul, Nat.add_assoc] at u1
    exact u1

/-- A list of one's own out of what stands in a block. -/
theorem ROwn.win {g g' : Gh} {w w' : World} {o : Loc} {flat c : Array Value} {n cap k off : Nat} {ys : List D} {T : TypeId} (hfl : RFlat g w flat n ys) (hb : w'.heap[k]? = some (.cells c T (0, 0))) (ho : g'.ow k = .lst o)
    (hcap : ys.length ≤ cap) (hsz : off + cap * n ≤ c.size) (hw : ∀ q, q < ys.length * n → c[off + q]? = flat[q]?) (hk : Keep .free g w g' w') (hρ : KeepR g g') : ROwn g' w' o (.slice (some ⟨k, off, none⟩) ys.length cap) n ys := by
  obtain ⟨h1, h2, h3⟩ := hfl
  refine .inr ⟨k, off, cap, c, T, fun i j => flat.getD (i * n + j) undef, rfl, ho, hb, hcap, hsz, h2, fun i x hx j y hy => ?_, fun i x hx j y hy => ?_⟩
  · obtain ⟨u, u1, u2, u3⟩ := h3 i x hx j y hy
    have hg : flat.getD (i * n + j) undef = u := by simp [Array.getD_eq_getD_getElem?, u1]
    have hj : j < n := by rw [← h2 i x hx]; exact get_lt hy
    have := get_lt hx
    have : (i + 1) * n ≤ ys.length * n := Nat.mul_le_mul_right _ this
    rw [Nat.succ_mul] at this
    simp only [hg]
    refine ⟨?_, u3⟩
    rw [Nat.add_assoc, hw _ (by omega), u1]
  · obtain ⟨u, u1, u2, u3⟩ := h3 i x hx j y hy
    have hg : flat.getD (i * n + j) undef = u := by simp [Array.getD_eq_getD_getElem?, u1]
    simp only [hg]
    exact u2.keep hk hρ

theorem ROwn.flatC {g : Gh} {w : World} {o : Loc} {n : Nat} {xs : List D} {k off len cap : Nat} {c : Array Value} {T : TypeId} {us : Nat → Nat → Value} (hn : 0 < n) (hl : len = xs.length) (hcap : xs.length ≤ cap) (hsz : off + cap * n ≤ c.size)
    (hw : ∀ (i : Nat) (x : D), xs[i]? = some x → x.cells.length = n) (hcc : ∀ (i : Nat) (x : D), xs[i]? = some x → ∀ (j : Nat) (y : D), x.cells[j]? = some y → c[off + i * n + j]? = some (us i j) ∧ (us i j).oneCell' = true)
    (hrr : ∀ (i : Nat) (x : D), xs[i]? = some x → ∀ (j : Nat) (y : D), x.cells[j]? = some y → Rd g w (us i j) y) : RFlat g w (c.extract off (off + xs.length * n)) n xs := by
  have hs : off + xs.length * n ≤ c.size := by
    have : xs.length * n ≤ cap * n := Nat.mul_le_mul_right _ hcap
    omega
  refine ⟨by simp [Nat.min_eq_left hs], hw, fun i x hx j y hy => ⟨us i j, ?_, hrr i x hx j y hy, (hcc i x hx j y hy).2⟩⟩
  have hj : j < n := by rw [← hw i x hx]; exact get_lt hy
  have := get_lt hx
  have : (i + 1) * n ≤ xs.length * n := Nat.mul_le_mul_right _ this
  rw [Nat.succ_mul] at this
  rw [Array.getElem?_extract, if_pos (by omega), ← Nat.add_assoc]
  exact (hcc i x hx j y hy).1

/-- Slots written with what nobody asks for. -/
def St.junk (st : St) : List Nat → St
  | [] => st
  | t :: ts => (st.put (some t) .undef).junk ts

/-- 's = append(s[:i], s[j:]...)', s a list of one's own. -/
theorem delR_wp {id : Nat} {o1 o2 o3 o4 o5 o6 o7 o8 : Oper} {T e : TypeId} {ti : TypeInfo} {z : Value} {n : Nat} {xs : List D} {i j : Int} {t1 t2 t3 t4 t5 t6 t7 s a1 a2 : Nat}
    (hm : P.follows .mixedOrders = true) (hB : Region.lexTailB .any #[o1, o2, o3, o4, o5, o6, o7, o8] 6 = true)
    (h1 : isOp o1 (some t1) (.move (.tmp s))) (h2 : isOp o2 (some t2) (.move (.tmp a1))) (h3 : isOp o3 (some t3) (.slice T (.tmp t1) none (some (.tmp t2)) none)) (h4 : isOp o4 (some t4) (.move (.tmp s))) (h5 : isOp o5 (some t5) (.move (.tmp a2)))
    (h6 : isOp o6 (some t6) (.slice T (.tmp t4) (some (.tmp t5)) none none)) (h7 : isOp o7 (some t7) (.call ⟨.builtin .append, #[.tmp t3, .tmp t6], #[T, T]⟩)) (h8 : isOp o8 (some s) (.assign (.tmp t7)))
    (hN : (decide (t1 < st.tmps.length) && decide (t2 < st.tmps.length) && decide (t3 < st.tmps.length) && decide (t4 < st.tmps.length) && decide (t5 < st.tmps.length) && decide (t6 < st.tmps.length) && decide (t7 < st.tmps.length)) = true)
    (hd : List.Pairwise (· ≠ ·) [s, a1, a2, t1, t2, t3, t4, t5, t6, t7])
    (hT : P.underlying T = some (.slice e)) (hi : P.info? e = some ti) (hz : ti.zero = some z) (hsize : ti.size = n) (hn : 0 < n) (hby : ti.bytes ≤ 65536)
    (hs : st.tmps[s]? = some (.own n xs)) (hi1 : valD st (.tmp a1) = some (.int .i64 i)) (hj1 : valD st (.tmp a2) = some (.int .i64 j)) (hij : (decide (0 ≤ i) && decide (i < j) && decide (j ≤ xs.length) && decide (xs.length ≤ room)) = true)
    {a : Act} {w : World} {g : Gh} (hr : Rel st a w g) :
    (Code.region id #[o1, o2, o3, o4, o5, o6, o7, o8] true).wp P (fun e a' w' => e = .normal ∧ ∃ g', Rel (((st.junk [t1, t2, t3, t4, t5, t6, t7]).take s).put (some s) (.own n (xs.take i.toNat ++ xs.drop j.toNat))) a' w' g' ∧ Fr pu g w g' w' ∧
      ∃ k off cap, valOf a' s = .slice (some ⟨k, off, none⟩) (xs.take i.toNat ++ xs.drop j.toNat).length cap ∧ xs.length ≤ cap) a w := by
  simp only [Bool.and_eq_true, decide_eq_true_eq] at hN hij
  obtain ⟨⟨⟨⟨⟨⟨n1, n2⟩, n3⟩, n4⟩, n5⟩, n6⟩, n7⟩ := hN
  obtain ⟨⟨⟨i0, ij⟩, jl⟩, hroom⟩ := hij
  simp only [List.pairwise_cons, List.mem_cons, List.not_mem_nil, or_false, ne_eq, forall_eq_or_imp, forall_eq, List.Pairwise.nil, and_true, false_imp_iff, implies_true] at hd
  obtain ⟨⟨sa1, sa2, s1, s2, s3, s4, s5, s6, s7⟩, ⟨a12, b1, b2, b3, b4, b5, b6, b7⟩, ⟨c1, c2, c3, c4, c5, c6, c7⟩, ⟨d12, d13, d14, d15, d16, d17⟩, ⟨d23, d24, d25, d26, d27⟩, ⟨d34, d35, d36, d37⟩, ⟨d45, d46, d47⟩, ⟨d56, d57⟩, d67⟩ := hd
  have hce : P.cellsOf e = n := by simp [Program.cellsOf, hi, hsize]
  have hn0 : P.cellsOf e ≠ 0 := by omega
  rcases (hr.tmp s _ hs : ROwn g w (.slot s) (valOf a s) n xs) with ⟨rfl, -⟩ | ⟨k, off, cap, c, T0, us, hv, hk, hb, hl, hz', hw, hcc, hrr⟩
  · simp at jl; omega
  have hlen := hr.len
  have e1 : a.eval (.tmp a1) = .int .i64 i := valD_leaf hr hi1 rfl
  have e2 : a.eval (.tmp a2) = .int .i64 j := valD_leaf hr hj1 rfl
  have es : a.eval (.tmp s) = .slice (some ⟨k, off, none⟩) xs.length cap := hv
  refine wp_region_still_tail (l := [o1, o2, o3, o4, o5, o6, o7, o8]) 6 hm hB ?_
  show wpStill P _ w.drew (fun a' => wpList P _ _ [o7, o8] a' w.drew) [o1, o2, o3, o4, o5, o6] a
  refine still_val h1 (v := .slice (some ⟨k, off, none⟩) xs.length cap) (fun _ => by rw [x_move, es]) ?_
  refine still_val h2 (v := .int .i64 i) (fun _ => by rw [x_move, ev_ne (Ne.symm b1), e1]) ?_
  refine still_val h3 (v := .slice (some ⟨k, off, none⟩) i.toNat cap) (fun ty => ?_) ?_
  · show (do pure (.value (← Instr.sliceAt T _ none (some _) none)) : Sem Next).run P w.drew = _
    simp only [Sem.run_bind]
    rw [ev_ne (Ne.symm d12), ev_eq (by omega), ev_eq (by rw [put_sz]; omega), run_sliceHi hT hn0 i0 (by omega)]
    rfl
  refine still_val h4 (v := .slice (some ⟨k, off, none⟩) xs.length cap) (fun _ => by rw [x_move, ev_ne (Ne.symm s3), ev_ne (Ne.symm s2), ev_ne (Ne.symm s1), es]) ?_
  refine still_val h5 (v := .int .i64 j) (fun _ => by rw [x_move, ev_ne (Ne.symm c4), ev_ne (Ne.symm c3), ev_ne (Ne.symm c2), ev_ne (Ne.symm c1), e2]) ?_
  refine still_val h6 (v := .slice (some ⟨k, if cap = j.toNat then off else off + j.toNat * n, none⟩) (xs.length - j.toNat) (cap - j.toNat)) (fun ty => ?_) ?_
  · show (do pure (.value (← Instr.sliceAt T _ (some _) none none)) : Sem Next).run P w.drew = _
    simp only [Sem.run_bind]
    rw [ev_ne (Ne.symm d45), ev_eq (by simp only [put_sz]; omega), ev_eq (by simp only [put_sz]; omega), run_sliceLo hT hn0 (by omega) jl, hce]
    rfl
  generalize ha6 : (((((a.put (some t1) (.slice (some ⟨k, off, none⟩) xs.length cap)).put (some t2) (.int .i64 i)).put (some t3) (.slice (some ⟨k, off, none⟩) i.toNat cap)).put (some t4) (.slice (some ⟨k, off, none⟩) xs.length cap)).put (some t5) (.int .i64 j)).put (some t6)
    (.slice (some ⟨k, if cap = j.toNat then off else off + j.toNat * n, none⟩) (xs.length - j.toNat) (cap - j.toNat)) = a6
  have hrd : Rel st a w.drew g := hr.drew
  have u : ∀ {v : Value}, Light g w.drew v .undef := trivial
  have r6 : Rel ((((((st.put (some t1) .undef).put (some t2) .undef).put (some t3) .undef).put (some t4) .undef).put (some t5) .undef).put (some t6) .undef) a6 w.drew g := by
    subst ha6
    exact (((((hrd.putLight (some t1) u).putLight (some t2) u).putLight (some t3) u).putLight (some t4) u).putLight (some t5) u).putLight (some t6) u
  have v3 : a6.eval (.tmp t3) = .slice (some ⟨k, off, none⟩) i.toNat cap := by subst ha6; rw [ev_ne (Ne.symm d36), ev_ne (Ne.symm d35), ev_ne (Ne.symm d34), ev_eq (by simp only [put_sz]; omega)]
  have v6 : a6.eval (.tmp t6) = .slice (some ⟨k, if cap = j.toNat then off else off + j.toNat * n, none⟩) (xs.length - j.toNat) (cap - j.toNat) := by subst ha6; rw [ev_eq (by simp only [put_sz]; omega)]
  have hlen6 : a6.tmps.size = st.tmps.length := by subst ha6; simp only [put_sz]; exact hlen
  clear ha6
  -- append
  have hcapn : xs.length * n ≤ cap * n := Nat.mul_le_mul_right _ hl
  have hjn : j.toNat * n + (xs.length - j.toNat) * n = xs.length * n := by rw [← Nat.add_mul]; congr 1; omega
  have hin : i.toNat * n ≤ j.toNat * n := Nat.mul_le_mul_right _ (by omega)
  let news := c.extract (off + j.toNat * n) (off + xs.length * n)
  have hbd : w.drew.heap[k]? = some (.cells c T0 (0, 0)) := hb
  have hnews : ∀ w', Up w.drew w' → (Builtin.firstCells n (xs.length - j.toNat) (.slice (some ⟨k, if cap = j.toNat then off else off + j.toNat * n, none⟩) (xs.length - j.toNat) (cap - j.toNat))).run P w' = .ok news w' := fun w' hup => by
    simp only [Builtin.firstCells]
    split
    · rename_i hcj
      have h0 : xs.length - j.toNat = 0 := by omega
      have : news = #[] := by
        refine Array.eq_empty_of_size_eq_zero ?_
        simp [news]; rw [h0] at hjn; omega
      rw [h0, this, Nat.zero_mul]
      simp [loadCells, loadCellsFrom]
    · rw [run_cells (P := P) (hup _ _ hbd) (by omega)]
      congr 1
      simp only [news]
      congr 1
      omega
  have hap := fun ty => append_exec (P := P) (T := T) (T2 := T) (ty := ty) (e := e) (i := ti) (z := z) (v := .slice (some ⟨k, off, none⟩) i.toNat cap) (x := .slice (some ⟨k, if cap = j.toNat then off else off + j.toNat * n, none⟩) (xs.length - j.toNat) (cap - j.toNat)) (w := w.drew)
    (m := xs.length - j.toNat) (news := news) (olds := c.extract off (off + i.toNat * n)) rfl hT hi hz ⟨_, hT, by simp⟩ (fun _ => rfl) (by rw [hsize]; exact hnews) (fun w' hup => by
      rw [hsize]
      simp only [Builtin.firstCells]
      rw [run_cells (P := P) (hup _ _ hbd) (by omega)]) (by unfold maxLen; unfold room at hroom; omega) (by
      unfold room at hroom
      have : (i.toNat + (xs.length - j.toNat)) * ti.bytes ≤ 16777216 * 65536 := Nat.mul_le_mul (by omega) hby
      omega)
  have hin' := fun ty => (hap ty).1 (by omega)
  simp only [hsize] at hin'
  have hnsz : news.size = (xs.length - j.toNat) * n := by simp [news]; omega
  have hone : ∀ v ∈ news.toList, v.oneCell' = true := by
    have := (ROwn.flatC (g := g) (w := w) (k := k) (T := T0) (o := .slot s) hn rfl hl hz' hw hcc hrr).one
    intro v hv'
    refine this v ?_
    simp only [news, Array.mem_toList_iff, Array.mem_extract_iff_getElem] at hv' ⊢
    obtain ⟨q, hq1, rfl⟩ := hv'
    exact ⟨j.toNat * n + q, by omega, by congr 1; omega⟩
  obtain ⟨w', q1, q2, q3, c', q4, q5, q6⟩ := run_storeCells' (P := P) k (off + i.toNat * n) T0 news.toList 0 c w.drew hbd (by simp [hnsz]; omega) hone
  refine list_val h7 (v := .slice (some ⟨k, off, none⟩) (i.toNat + (xs.length - j.toNat)) cap) (w' := w') (fun ty => ?_) ?_
  · refine run_append_call (a := a6) (x := .tmp t3) (y := .tmp t6) rfl rfl rfl rfl ?_
    rw [v3, v6, hin' ty]
    simp only [Addr.add_lit, q1, Result.andThen_ok]
  refine list_val h8 (v := .slice (some ⟨k, off, none⟩) (i.toNat + (xs.length - j.toNat)) cap) (w' := w') (fun _ => by rw [x_assign, ev_eq (by omega)]) ?_
  -- the end
  let zs := xs.take i.toNat ++ xs.drop j.toNat
  have hzl : zs.length = i.toNat + (xs.length - j.toNat) := by simp [zs]; omega
  have hkeep : ∀ o', o' ≠ .lst (.slot s) → Keep o' g w.drew g w' := fun o' ho => Keep.block hk ho q3
  have r7 : Rel (st.junk [t1, t2, t3, t4, t5, t6, t7]) (a6.put (some t7) (.slice (some ⟨k, off, none⟩) (i.toNat + (xs.length - j.toNat)) cap)) w.drew g := r6.putLight (some t7) u
  have hfl := ROwn.flatC (g := g) (w := w) (k := k) (T := T0) (o := .slot s) hn rfl hl hz' hw hcc hrr
  have hin2 : i.toNat * n + (xs.length - j.toNat) * n ≤ xs.length * n := by omega
  have hO : ROwn g w' (.slot s) (.slice (some ⟨k, off, none⟩) (i.toNat + (xs.length - j.toNat)) cap) n zs := by
    rw [← hzl]
    refine ROwn.win ((hfl.take (i := i.toNat) (by omega)).append (hfl.drop (i := j.toNat) (by omega))) q4 hk (by omega) (by rw [q5]; exact hz') (fun q hq => ?_) (hkeep _ (by simp)) (fun _ _ h => h)
    rw [hzl, Nat.add_mul] at hq
    have hmin : min i.toNat xs.length = i.toNat := by omega
    have hsz1 : ((c.extract off (off + xs.length * n)).extract 0 (i.toNat * n)).size = i.toNat * n := by rw [(hfl.take (i := i.toNat) (by omega)).1, List.length_take, hmin]
    have hszF := hfl.1
    rw [q6]
    by_cases hq1 : q < i.toNat * n
    · rw [if_neg (by omega), Array.getElem?_append_left (by omega), Array.getElem?_extract, if_pos (by simp [hmin]; omega), Array.getElem?_extract, if_pos (by omega)]
      congr 1; omega
    · rw [if_pos (by simp [hnsz]; omega), Array.getElem?_append_right (by omega), hsz1, Array.getElem?_toList, Array.getElem?_extract, if_pos (by simp [hnsz]; omega), Array.getElem?_extract, if_pos (by simp; omega), Array.getElem?_extract, if_pos (by omega)]
      congr 1; omega
  have hfin := Rel.replace r7 (s := s) (d := s) (sv := .own n zs) (v' := .slice (some ⟨k, off, none⟩) (i.toNat + (xs.length - j.toNat)) cap) hkeep rfl (fun _ _ => hO)
  refine ⟨rfl, g, hfin, (Fr.drew).trans (Fr.keepBut (l := .slot s) (by simp) (by rw [q2]; exact Nat.le_refl _) hkeep rfl (storeCells_os (P := P) k (off + i.toNat * n) T0 news.toList 0 c w.drew w' hbd (by simp [hnsz]; omega) hone q1)), k, off, cap, ?_, hl⟩
  rw [valOf_put_same (by rw [put_sz, hlen6]; exact get_lt hs), hzl]

theorem run_sliceB {T e : TypeId} (hu : P.underlying T = some (.slice e)) (hz : P.cellsOf e ≠ 0) {k off len cap : Nat} {i j : Int} {ik jk : IntKind} (h0 : 0 ≤ i) (h1 : i ≤ j) (h2 : j ≤ cap) (w : World) :
    (Instr.sliceAt T (.slice (some ⟨k, off, none⟩) len cap) (some (.int ik i)) (some (.int jk j)) none).run P w = .ok (.slice (some ⟨k, if cap = i.toNat then off else off + i.toNat * P.cellsOf e, none⟩) (j.toNat - i.toNat) (cap - i.toNat)) w := by
  have hj : 0 ≤ j := by omega
  have hij : i ≤ max j 0 := by omega
  simp [Instr.sliceAt, Instr.slice, Instr.sliceBounds, Instr.sliceBound, asIntOf, run_underlying hu, h0, h1, h2, hj, hij, sizeOf_ne hz, Addr.add_lit]
  split <;> rfl

theorem run_clear_call {o : Oper} {c : Call} {a : Act} {w : World} {x : Operand} {T : TypeId} (hop : o.op = .call c) (hc : c.callee = .builtin .clear) (ha : c.args.toList = [x]) (ht : c.argTypes.toList = [T]) {v : Value} {w' : World}
    (h : (Builtin.clear_ #[T] o.type #[a.eval x]).run P w = .ok v w') : (execOp a.eval o).run P w = .ok (.value v) w' := by
  obtain ⟨callee, args, argTypes⟩ := c
  have ha2 : args = #[x] := by apply Array.ext'; simpa using ha
  have ht2 : argTypes = #[T] := by apply Array.ext'; simpa using ht
  subst ha2 ht2
  simp only at hc
  subst hc
  unfold execOp
  rw [hop]
  simp only [resolve, List.map_toArray, List.map_cons, List.map_nil, Sem.run_bind, Sem.run_pure, Result.andThen_ok, invoke, builtin]
  simp [h]

theorem run_len_call {o : Oper} {c : Call} {a : Act} {w : World} {x : Operand} {T e : TypeId} {b : Option Addr} {n cap : Nat} (hop : o.op = .call c) (hc : c.callee = .builtin .len) (ha : c.args.toList = [x]) (ht : c.argTypes.toList = [T]) (hu : P.underlying T = some (.slice e))
    (hx : a.eval x = .slice b n cap) : (execOp a.eval o).run P w = .ok (.value (goInt n)) w := by
  obtain ⟨callee, args, argTypes⟩ := c
  have ha2 : args = #[x] := by apply Array.ext'; simpa using ha
  have ht2 : argTypes = #[T] := by apply Array.ext'; simpa using ht
  subst ha2 ht2
  simp only at hc
  subst hc
  unfold execOp
  rw [hop]
  simp only [resolve, List.map_toArray, List.map_cons, List.map_nil, Sem.run_bind, Sem.run_pure, Result.andThen_ok, invoke, builtin, hx]
  simp [Builtin.len_, run_underlying hu]

theorem zeroCells_one {z : Value} {d : D} (hz : constD z = some d) (m : Nat) : ∀ v ∈ (Builtin.zeroCells z.cells m).toList, v.oneCell' = true := by
  intro v hv
  have hrd : Rd ⟨fun _ => .free, []⟩ (default : World) z d := constD_rd hz
  obtain ⟨c1, c2⟩ := hrd.cells
  simp only [Builtin.zeroCells, Array.toList_map, List.mem_map] at hv
  obtain ⟨i, hi, rfl⟩ := hv
  have hi' : i < m * z.cells.size := by simpa using hi
  have h0 : 0 < z.cells.size := by
    rcases Nat.eq_zero_or_pos z.cells.size with h | h
    · rw [h] at hi'; omega
    · exact h
  have hlt : i % z.cells.size < z.cells.size := Nat.mod_lt _ h0
  obtain ⟨u, u1, -, u3⟩ := c2 (i % z.cells.size) (d.cells[i % z.cells.size]'(by omega)) (by simp)
  have : z.cells[i % z.cells.size]! = u := by
    rw [Array.getElem!_eq_getD]
    simp [Array.getD_eq_getD_getElem?, u1]
  rw [this]; exact u3

/-- 's = append(s[:i], s[j:]...); clear(s[len(s):oldlen])'. -/
theorem SW.del {id id2 : Nat} {o1 o2 o3 o4 o5 o6 o7 o8 p1 p2 p3 p4 p5 p6 : Oper} {Y : Code} {T e : TypeId} {ti : TypeInfo} {z : Value} {zd : D} {n : Nat} {xs : List D} {i j : Int} {Q : Exit → St → Prop} {t1 t2 t3 t4 t5 t6 t7 s a1 a2 a3 u1 u2 u3 u4 u5 : Nat} {st2 : St}
    (hm : P.follows .mixedOrders = true) (hB : Region.lexTailB .any #[o1, o2, o3, o4, o5, o6, o7, o8] 6 = true)
    (h1 : isOp o1 (some t1) (.move (.tmp s))) (h2 : isOp o2 (some t2) (.move (.tmp a1))) (h3 : isOp o3 (some t3) (.slice T (.tmp t1) none (some (.tmp t2)) none)) (h4 : isOp o4 (some t4) (.move (.tmp s))) (h5 : isOp o5 (some t5) (.move (.tmp a2)))
    (h6 : isOp o6 (some t6) (.slice T (.tmp t4) (some (.tmp t5)) none none)) (h7 : isOp o7 (some t7) (.call ⟨.builtin .append, #[.tmp t3, .tmp t6], #[T, T]⟩)) (h8 : isOp o8 (some s) (.assign (.tmp t7)))
    (k1 : isOp p1 (some u1) (.move (.tmp s))) (k2 : isOp p2 (some u2) (.move (.tmp s))) (k3 : isOp p3 (some u3) (.call ⟨.builtin .len, #[.tmp u2], #[T]⟩)) (k4 : isOp p4 (some u4) (.move (.tmp a3)))
    (k5 : isOp p5 (some u5) (.slice T (.tmp u1) (some (.tmp u3)) (some (.tmp u4)) none)) (k6 : isOp p6 none (.call ⟨.builtin .clear, #[.tmp u5], #[T]⟩))
    (hN : (decide (t1 < st.tmps.length) && decide (t2 < st.tmps.length) && decide (t3 < st.tmps.length) && decide (t4 < st.tmps.length) && decide (t5 < st.tmps.length) && decide (t6 < st.tmps.length) && decide (t7 < st.tmps.length)) = true)
    (hN2 : (decide (u1 < st.tmps.length) && decide (u2 < st.tmps.length) && decide (u3 < st.tmps.length) && decide (u4 < st.tmps.length) && decide (u5 < st.tmps.length)) = true)
    (hd : List.Pairwise (· ≠ ·) [s, a1, a2, t1, t2, t3, t4, t5, t6, t7]) (hd2 : List.Pairwise (· ≠ ·) [s, a3, u1, u2, u3, u4, u5])
    (hT : P.underlying T = some (.slice e)) (hi : P.info? e = some ti) (hz : ti.zero = some z) (hzd : constD z = some zd) (hzn : z.cells.size = n) (hsize : ti.size = n) (hn : 0 < n) (hby : ti.bytes ≤ 65536)
    (hs : st.tmps[s]? = some (.own n xs)) (hi1 : valD st (.tmp a1) = some (.int .i64 i)) (hj1 : valD st (.tmp a2) = some (.int .i64 j)) (hij : (decide (0 ≤ i) && decide (i < j) && decide (j ≤ xs.length) && decide (xs.length ≤ room)) = true)
    (hst2 : ((st.junk [t1, t2, t3, t4, t5, t6, t7]).take s).put (some s) (.own n (xs.take i.toNat ++ xs.drop j.toNat)) = st2) (h3v : valD st2 (.tmp a3) = some (.int .i64 xs.length))
    (hq : SW P pu Y (st2.junk [u1, u2, u3, u4, u5]) Q) :
    SW P pu (.seq (.region id #[o1, o2, o3, o4, o5, o6, o7, o8] true) (.seq (.region id2 #[p1, p2, p3, p4, p5, p6] false) Y)) st Q := by
  intro a w g hr
  refine wp_seq (Code.wp_mono (fun ex a1' w1 hh => ?_) (delR_wp (pu := pu) (a1 := a1) (a2 := a2) hm hB h1 h2 h3 h4 h5 h6 h7 h8 hN hd hT hi hz hsize hn hby hs hi1 hj1 hij hr))
  obtain ⟨rfl, g1, hr1, hf1, k, off, cap, hv, hcap⟩ := hh
  rw [hst2] at hr1
  simp only [Bool.and_eq_true, decide_eq_true_eq] at hN2 hij
  obtain ⟨⟨⟨⟨n1, n2⟩, n3⟩, n4⟩, n5⟩ := hN2
  obtain ⟨⟨⟨i0, ij⟩, jl⟩, hroom⟩ := hij
  simp only [List.pairwise_cons, List.mem_cons, List.not_mem_nil, or_false, ne_eq, forall_eq_or_imp, forall_eq, List.Pairwise.nil, and_true, false_imp_iff, implies_true] at hd2
  obtain ⟨⟨s3, s1, s2, s4, s5, s6⟩, ⟨b1, b2, b3, b4, b5⟩, ⟨d12, d13, d14, d15⟩, ⟨d23, d24, d25⟩, ⟨d34, d35⟩, d45⟩ := hd2
  have hlen1 : a1'.tmps.size = st.tmps.length := by
    rw [hr1.len, ← hst2]; simp [St.junk]
  have hce : P.cellsOf e = n := by simp [Program.cellsOf, hi, hsize]
  have hn0 : P.cellsOf e ≠ 0 := by omega
  let zs := xs.take i.toNat ++ xs.drop j.toNat
  have hzl : zs.length = i.toNat + (xs.length - j.toNat) := by simp [zs]; omega
  have hs1 : st2.tmps[s]? = some (.own n zs) := by
    rw [← hst2]
    have hlt : s < ((st.junk [t1, t2, t3, t4, t5, t6, t7]).take s).tmps.length := by simp [St.junk]; exact get_lt hs
    simp only [St.put]
    rw [List.getElem?_eq_getElem hlt]
    simp only
    split
    · simp only [St.set]; rw [List.getElem?_set_self (by simpa using hlt)]
    · simp only [St.set]; rw [List.getElem?_set_self hlt]
  have hO : ROwn g1 w1 (.slot s) (valOf a1' s) n zs := hr1.tmp s _ hs1
  have ev0 : a1'.eval (.tmp s) = .slice (some ⟨k, off, none⟩) zs.length cap := hv
  have ev3 : a1'.eval (.tmp a3) = .int .i64 xs.length := valD_leaf hr1 h3v rfl
  refine wp_seq (wp_region_lit (l := [p1, p2, p3, p4, p5, p6]) ?_)
  refine list_val k1 (w' := w1) (v := .slice (some ⟨k, off, none⟩) zs.length cap) (fun _ => by rw [x_move, ev0]) ?_
  refine list_val k2 (w' := w1) (v := .slice (some ⟨k, off, none⟩) zs.length cap) (fun _ => by rw [x_move, ev_ne (Ne.symm s1), ev0]) ?_
  refine list_val k3 (w' := w1) (v := goInt zs.length) (fun ty => ?_) ?_
  · exact run_len_call rfl rfl rfl rfl hT (ev_eq (by rw [put_sz]; omega))
  refine list_val k4 (w' := w1) (v := .int .i64 xs.length) (fun _ => by rw [x_move, ev_ne (Ne.symm b3), ev_ne (Ne.symm b2), ev_ne (Ne.symm b1), ev3]) ?_
  refine list_val k5 (w' := w1) (v := .slice (some ⟨k, off + zs.length * n, none⟩) (xs.length - zs.length) (cap - zs.length)) (fun ty => ?_) ?_
  · show (do pure (.value (← Instr.sliceAt T _ (some _) (some _) none)) : Sem Next).run P w1 = _
    simp only [Sem.run_bind]
    rw [ev_ne (Ne.symm d14), ev_ne (Ne.symm d13), ev_ne (Ne.symm d12), ev_eq (by omega), ev_ne (Ne.symm d34), ev_eq (by simp only [put_sz]; omega), ev_eq (by simp only [put_sz]; omega)]
    rw [show goInt zs.length = .int .i64 zs.length from rfl, run_sliceB hT hn0 (by omega) (by omega) (by omega), if_neg (by omega), hce]
    rfl
  rcases hO with ⟨hz0, a0, hva⟩ | ⟨k', off', cap', c, T0, us, hva, hk, hb, hl, hzz, hw, hcc, hrr⟩
  · have : valOf a1' s = .slice (some ⟨k, off, none⟩) zs.length cap := hv
    rw [hva] at this
    simp only [Value.slice.injEq] at this
    omega
  · have hveq : valOf a1' s = .slice (some ⟨k, off, none⟩) zs.length cap := hv
    rw [hva] at hveq
    simp only [Value.slice.injEq, Option.some.injEq, Addr.mk.injEq, true_and, and_true] at hveq
    obtain ⟨⟨rfl, rfl⟩, rfl⟩ := hveq
    have hzm : zs.length * n + (xs.length - zs.length) * n = xs.length * n := by rw [← Nat.add_mul]; congr 1; omega
    have hcn : xs.length * n ≤ cap' * n := Nat.mul_le_mul_right _ hcap
    obtain ⟨w', q1, q2, q3, c', q4, q5, q6⟩ := run_storeCells' (P := P) k' (off' + zs.length * n) T0 (Builtin.zeroCells z.cells (xs.length - zs.length)).toList 0 c w1 hb (by simp [size_zeroCells, hzn]; omega) (zeroCells_one hzd _)
    refine list_val k6 (v := .tuple #[]) (w' := w') (fun ty => ?_) ?_
    · refine run_clear_call (x := .tmp u5) rfl rfl rfl rfl ?_
      rw [ev_eq (by simp only [put_sz]; omega)]
      obtain ⟨m, hm⟩ : ∃ m, xs.length - zs.length = m + 1 := ⟨xs.length - zs.length - 1, by omega⟩
      have hzv : (zeroValue e).run P w1 = .ok z w1 := by simp [zeroValue, typeInfo, hi, hz]
      rw [hm] at q1 ⊢
      simp [Builtin.clear_, run_underlying hT, hzv, q1]
    have hkeep : ∀ o', o' ≠ .lst (.slot s) → Keep o' g1 w1 g1 w' := fun o' ho => Keep.block hk ho q3
    have u : ∀ {v : Value}, Light g1 w' v .undef := trivial
    have hO' : ROwn g1 w' (.slot s) (valOf a1' s) n zs := by
      rw [hva]
      refine ROwn.win (ROwn.flatC (g := g1) (w := w1) (k := k') (T := T0) (o := .slot s) hn rfl hl hzz hw hcc hrr) q4 hk hl (by rw [q5]; exact hzz) (fun q hq => ?_) (hkeep _ (by simp)) (fun _ _ h => h)
      rw [q6, if_neg (by omega), Array.getElem?_extract, if_pos (by omega)]
    have hr2 : Rel st2 a1' w' g1 := by
      refine Rel.step hr1 hr1.len hr1.def0 (fun _ _ h => h) (fun t sv hts => ?_) (hr1.hp.keep (fun o ho => hkeep o fun e => by subst e; exact ho.elim) (fun _ _ h => h) rfl)
      by_cases ht : t = s
      · subst ht
        rw [hs1] at hts; cases hts
        exact .inr (.inl hO')
      · refine .inr (.inr ⟨hts, rfl, fun o ho => hkeep o fun e => ?_, fun s' _ => ⟨rfl, fun x hx _ => ⟨x, hx, rfl⟩⟩⟩)
        subst e
        rw [← hst2] at hts
        rcases St.put_get ht hts with h | ⟨h, -⟩
        · subst h; exact ho.elim
        · rcases St.take_get h with h | ⟨-, -, h⟩
          · subst h; exact ho.elim
          · exact (uses_mention ht h ho).2.1 rfl
    have hr3 := ((((hr2.putLight (some u1) (v := .slice (some ⟨k', off', none⟩) zs.length cap') u).putLight (some u2) (v := .slice (some ⟨k', off', none⟩) zs.length cap') u).putLight (some u3) (v := goInt zs.length) u).putLight (some u4) (v := .int .i64 xs.length) u).putLight (some u5) (v := .slice (some ⟨k', off' + zs.length * n, none⟩) (xs.length - zs.length) (cap' - zs.length)) u
    simp only [St.junk] at hq
    refine Code.wp_mono (fun e2 a2' w2 hh2 => ?_) (hq _ w' g1 (hr3.putLight none (v := .tuple #[]) u))
    obtain ⟨st3, g3, q, r, f⟩ := hh2
    exact ⟨st3, g3, q, r, hf1.trans ((Fr.keepBut (l := .slot s) (by simp) (by rw [q2]; exact Nat.le_refl _) hkeep rfl (storeCells_os (P := P) k' (off' + zs.length * n) T0 _ 0 c w1 w' hb (by simp [size_zeroCells, hzn]; omega) (zeroCells_one hzd _) q1)).trans f)⟩
end
end Go.Sh
set_option linter.unusedVariables false
set_option linter.unusedSimpArgs false
namespace Go.Sh
section
variable {P : Program} {pu : Bool} {st : St} {ops : Array Oper}

theorem x_add {a : Act} {w : World} {o : Oper} {I I2 ty : TypeId} {x y : Operand} {p q : Int} (hx : a.eval x = .int .i64 p) (hy : a.eval y = .int .i64 q) (h : -9223372036854775808 ≤ p + q ∧ p + q ≤ 9223372036854775807) :
    (execOp a.eval { o with op := .binOp .add I x y I2, type := ty }).run P w = .ok (.value (.int .i64 (p + q))) w := by
  have : (do eqGuard .add I x y (.int .i64 p) (.int .i64 q); binOp .add I (.int .i64 p) (.int .i64 q) : Sem Value).run P w = .ok (.int .i64 (IntKind.wrap .i64 (p + q))) w := rfl
  rw [IntWalk.i64_in _ h] at this
  unfold execOp
  simp only [hx, hy]
  simp only [Sem.run_bind] at this ⊢
  rw [this]
  rfl

theorem x_sub {a : Act} {w : World} {o : Oper} {I I2 ty : TypeId} {x y : Operand} {p q : Int} (hx : a.eval x = .int .i64 p) (hy : a.eval y = .int .i64 q) (h : -9223372036854775808 ≤ p - q ∧ p - q ≤ 9223372036854775807) :
    (execOp a.eval { o with op := .binOp .sub I x y I2, type := ty }).run P w = .ok (.value (.int .i64 (p - q))) w := by
  have : (do eqGuard .sub I x y (.int .i64 p) (.int .i64 q); binOp .sub I (.int .i64 p) (.int .i64 q) : Sem Value).run P w = .ok (.int .i64 (IntKind.wrap .i64 (p - q))) w := rfl
  rw [IntWalk.i64_in _ h] at this
  unfold execOp
  simp only [hx, hy]
  simp only [Sem.run_bind] at this ⊢
  rw [this]
  rfl

theorem x_gtr {a : Act} {w : World} {o : Oper} {I I2 ty : TypeId} {x y : Operand} {p q : Int} (hx : a.eval x = .int .i64 p) (hy : a.eval y = .int .i64 q) :
    (execOp a.eval { o with op := .binOp .gtr I x y I2, type := ty }).run P w = .ok (.value (.bool (decide (p > q)))) w := by
  have : (do eqGuard .gtr I x y (.int .i64 p) (.int .i64 q); binOp .gtr I (.int .i64 p) (.int .i64 q) : Sem Value).run P w = .ok (.bool (decide (p > q))) w := rfl
  unfold execOp
  simp only [hx, hy]
  simp only [Sem.run_bind] at this ⊢
  rw [this]
  rfl

theorem x_not {a : Act} {w : World} {o : Oper} {I ty : TypeId} {x : Operand} {b : Bool} (hx : a.eval x = .bool b) :
    (execOp a.eval { o with op := .unOp .not I x, type := ty }).run P w = .ok (.value (.bool !b)) w := by
  unfold execOp
  simp only [hx]
  rfl

theorem x_cap {a : Act} {w : World} {o : Oper} {T e ty : TypeId} {x : Operand} {b : Option Addr} {n c : Nat} (hu : P.underlying T = some (.slice e)) (hx : a.eval x = .slice b n c) :
    (execOp a.eval { o with op := .call ⟨.builtin .cap, #[x], #[T]⟩, type := ty }).run P w = .ok (.value (goInt c)) w := by
  unfold execOp
  simp only [resolve, List.map_toArray, List.map_cons, List.map_nil, Sem.run_bind, Sem.run_pure, Result.andThen_ok, invoke, builtin, hx]
  simp [Builtin.cap_, run_underlying hu]

theorem x_sliceHi {a : Act} {w : World} {o : Oper} {T e ty : TypeId} {x y : Operand} (hu : P.underlying T = some (.slice e)) (hz : P.cellsOf e ≠ 0) {k off len cap : Nat} {i : Int} (hx : a.eval x = .slice (some ⟨k, off, none⟩) len cap) (hy : a.eval y = .int .i64 i) (h0 : 0 ≤ i) (h1 : i ≤ cap) :
    (execOp a.eval { o with op := .slice T x none (some y) none, type := ty }).run P w = .ok (.value (.slice (some ⟨k, off, none⟩) i.toNat cap)) w := by
  show (do pure (.value (← Instr.sliceAt T (a.eval x) none (some (a.eval y)) none)) : Sem Next).run P w = _
  simp only [Sem.run_bind]
  rw [hx, hy, run_sliceHi hu hz h0 h1]
  rfl

theorem x_sliceLo {a : Act} {w : World} {o : Oper} {T e ty : TypeId} {x y : Operand} (hu : P.underlying T = some (.slice e)) (hz : P.cellsOf e ≠ 0) {k off len cap : Nat} {i : Int} (hx : a.eval x = .slice (some ⟨k, off, none⟩) len cap) (hy : a.eval y = .int .i64 i) (h0 : 0 ≤ i) (h1 : i ≤ len) :
    (execOp a.eval { o with op := .slice T x (some y) none none, type := ty }).run P w = .ok (.value (.slice (some ⟨k, if cap = i.toNat then off else off + i.toNat * P.cellsOf e, none⟩) (len - i.toNat) (cap - i.toNat))) w := by
  show (do pure (.value (← Instr.sliceAt T (a.eval x) (some (a.eval y)) none none)) : Sem Next).run P w = _
  simp only [Sem.run_bind]
  rw [hx, hy, run_sliceLo hu hz h0 h1]
  rfl

/-- copy(dst, src): so many cells from one place to another. -/
theorem x_copy {a : Act} {w w' : World} {o : Oper} {T T2 e ty : TypeId} {x y : Operand} {k off dl dc m n : Nat} {cs : Array Value} (hu : P.underlying T = some (.slice e)) (hz : P.cellsOf e = n) (hn : n ≠ 0) (hx : a.eval x = .slice (some ⟨k, off, none⟩) dl dc)
    (hl : (Builtin.lenOf (a.eval y)).run P w = .ok m w) (hc : (Builtin.firstCells n (Nat.min m dl) (a.eval y)).run P w = .ok cs w) (hs : (storeCells ⟨k, off, none⟩ cs.toList).run P w = .ok () w') :
    (execOp a.eval { o with op := .call ⟨.builtin .copy, #[x, y], #[T, T2]⟩, type := ty }).run P w = .ok (.value (goInt (Nat.min m dl))) w' := by
  subst hz
  unfold execOp
  simp only [resolve, List.map_toArray, List.map_cons, List.map_nil, Sem.run_bind, Sem.run_pure, Result.andThen_ok, invoke, builtin, hx]
  simp [Builtin.copy_, run_underlying hu, hl, sizeOf_ne hn, hc, hs]

theorem x_callF {a : Act} {w : World} {o : Oper} {f ty : Nat} {x y : Operand} {ts : Array TypeId} : (execOp a.eval { o with op := .call ⟨.value (.func f), #[x, y], ts⟩, type := ty }).run P w = (callFunc f #[a.eval x, a.eval y]).run P w := by
  unfold execOp
  simp only [resolve, Deferred.ofValue, List.map_toArray, List.map_cons, List.map_nil, Sem.run_bind, Sem.run_pure, Result.andThen_ok, invoke]
  rfl

/-- Two lists that share no memory do not overlap. -/
theorem run_overlaps {T e : TypeId} {ps rs : Array TypeId} (hp : ps[0]? = some T) (hu : P.underlying T = some (.slice e)) (hz : P.cellsOf e ≠ 0) {kv ov m cv k o2 lb cb : Nat} {av c : Array Value} {Tv T0 : TypeId} {fz : Nat × Nat} {w : World} (hv : w.heap[kv]? = some (.cells av Tv fz))
    (hb : w.heap[k]? = some (.cells c T0 (0, 0))) (hne : kv ≠ k) (hm : 0 < m) (hl : 0 < lb) (hav : 0 < av.size) :
    (Extern.SlicesOverlaps.overlaps ps rs #[.slice (some ⟨kv, ov, none⟩) m cv, .slice (some ⟨k, o2, none⟩) lb cb]).run P w = .ok (.bool false) w := by
  have f2 : ∀ q, w.frozen? ⟨k, q, none⟩ = false := fun q => by simp [World.frozen?, hb]
  have s1 : w.shape? kv = some (Tv, av.size) := by simp [World.shape?, hv]
  have s2 : w.shape? k = some (T0, c.size) := by simp [World.shape?, hb]
  have hne' : (kv == k) = false := by simpa using hne
  have hm0 : m ≠ 0 := by omega
  have hl0 : lb ≠ 0 := by omega
  have ha0 : av.size ≠ 0 := by omega
  have hsz : (sizeOf e).run P w = .ok (P.cellsOf e) w := sizeOf_ne hz w
  have hvw : ∀ q, (noView ⟨kv, q, none⟩).run P w = .ok () w := fun q => by simp [noView, viewAt, shape, Sem.run_bind, Sem.run, s1]
  have hbw : ∀ q, (noView ⟨k, q, none⟩).run P w = .ok () w := fun q => by simp [noView, viewAt, shape, Sem.run_bind, Sem.run, s2]
  have hst : ∀ q, ∃ b, (stringish ⟨kv, q, none⟩).run P w = .ok b w := fun q => by
    cases hf : w.frozen? ⟨kv, q, none⟩
    · exact ⟨w.frozen? ⟨kv, av.size, none⟩, by simp [stringish, frozen, shape, Sem.run_bind, Sem.run, s1, hf]⟩
    · exact ⟨true, by simp [stringish, frozen, shape, Sem.run_bind, Sem.run, s1, hf]⟩
  have hst2 : ∀ q, (stringish ⟨k, q, none⟩).run P w = .ok false w := fun q => by
    simp [stringish, frozen, shape, Sem.run_bind, Sem.run, s2, f2]
  obtain ⟨bs, hbs⟩ := hst ov
  have hmb : (mayBeOne ⟨kv, ov, none⟩ ⟨k, o2, none⟩).run P w = .ok false w := by
    simp [mayBeOne, shape, Sem.run_bind, Sem.run, hbs, hst2, s1, s2]
    intro _
    obtain ⟨p, hp⟩ : ∃ p, av.size = p + 1 := ⟨av.size - 1, by omega⟩
    rw [hp]
    rfl
  have hbody : Extern.SlicesOverlaps.overlaps ps rs #[.slice (some ⟨kv, ov, none⟩) m cv, .slice (some ⟨k, o2, none⟩) lb cb] = (do
      let some t := ps[0]? | stuck "slices.overlaps: no parameter types"
      let .slice elem ← underlying t | stuck "slices.overlaps: slice type expected"
      let size ← sizeOf elem
      if m = 0 ∨ lb = 0 ∨ size = 0 then pure (.bool false)
      else if kv != k && (← frozen ⟨kv, ov, none⟩) && (← frozen ⟨k, o2, none⟩) then unsupported .addressObserved
      else do
        if kv != k then do
          noView ⟨kv, ov, none⟩; noView ⟨k, o2, none⟩
          if ← mayBeOne ⟨kv, ov, none⟩ ⟨k, o2, none⟩ then return .bool ((← choose (.extern "sameAddr.stringBytes" 2)) == 1)
        pure (.bool (kv == k && ov < o2 + lb * size && o2 < ov + m * size))) := rfl
  rw [hbody]
  simp [hp, run_underlying hu, hsz, hm0, hl0, hz, hne', frozen, Sem.run, f2, hvw, hbw, hmb]

/-- append(s, make(S, m)...) where there is no room: a new row. -/
theorem x_appendMake {a : Act} {w : World} {T I e : TypeId} {x y : Operand} {ti : TypeInfo} {z : Value} {base : Option Addr} {sLen sCap m : Nat} {olds : Array Value} {ik : IntKind} (hx : a.eval x = .slice base sLen sCap) (hy : a.eval y = .int .i64 m)
    (ht : P.underlying T = some (.slice e)) (hI : P.underlying I = some (.int ik)) (hi : P.info? e = some ti) (hz : ti.zero = some z) (hn : ti.size ≠ 0)
    (hold : (Builtin.firstCells ti.size sLen (.slice base sLen sCap)).run P w.drew = .ok olds w.drew) (hm : 0 < m) (hc : sCap < sLen + m) (h63 : sLen + m ≤ maxLen) (hb : (sLen + m) * ti.bytes ≤ 140737488355328) :
    ∃ gc, sLen + m ≤ gc ∧ ∀ (o : Oper) (ty : TypeId), (execOp a.eval { o with op := .call ⟨.builtin .append, #[x, y], #[T, I]⟩, type := ty }).run P w = .ok (.value (.slice (some ⟨w.heap.size, 0, none⟩) (sLen + m) gc))
      (w.drew.alloc (.cells (olds ++ Builtin.zeroCells z.cells m ++ Builtin.zeroCells z.cells (gc - (sLen + m))) e)) := by
  refine ⟨grownCap w (sLen + m) sCap e, grownCap_ge w (sLen + m) sCap e, fun o ty => ?_⟩
  have h63' : ¬ ((9223372036854775807 : Int) < (sLen : Int) + (m : Int)) := by unfold maxLen at h63; omega
  have h64 : IntKind.i64.wrap (m : Int) = m := IntWalk.i64_in _ (by unfold maxLen at h63; omega)
  have hnr : ¬ (sLen + m ≤ sCap) := by omega
  have h48 : ¬ (281474976710656 < Builtin.nextslicecap (sLen + m) sCap * ti.bytes) := by have := growslice_fits hc hb; omega
  have hmb : ¬ ((281474976710656 : Int) < (m : Int) * (ti.bytes : Int)) := by
    have h1 : m * ti.bytes ≤ (sLen + m) * ti.bytes := Nat.mul_le_mul_right _ (by omega)
    have h2 : (m : Int) * (ti.bytes : Int) = ((m * ti.bytes : Nat) : Int) := by rw [Int.natCast_mul]
    rw [h2]; omega
  have hmz : ¬ (m * ti.size = 0) := Nat.mul_ne_zero (by omega) hn
  have hm0 : ¬ m = 0 := by omega
  refine run_append_call (x := x) (y := y) rfl rfl rfl rfl ?_
  rw [hx, hy]
  simp [Builtin.append_, run_underlying ht, run_underlying hI, sizeOf, typeInfo, zeroValue, hi, hz, asInt, asIntOf, h64, hmb, hnr, h63', h48, hmz, hm0, hn, Question.forced, hold, newRow, grownCap]
  intro h
  omega
end
end Go.Sh
set_option linter.unusedVariables false
set_option linter.unusedSimpArgs false
set_option maxRecDepth 10000
set_option maxHeartbeats 2000000
namespace Go.Sh

theorem sp_one {n t : Nat} {s x : SV} {H : List SObj} (h : (sp n [(6, x)] H).tmps[t]? = some s) : s = .undef ∨ (t = 6 ∧ s = x) := by
  have key : ∀ (n t0 : Nat) (t : Nat) (s : SV), (spL [(6, x)] n t0)[t]? = some s → s = .undef ∨ (t + t0 = 6 ∧ s = x) := by
    intro n
    induction n with
    | zero => intro t0 t s h; simp [spL] at h
    | succ n ih =>
      intro t0 t s h
      simp only [spL] at h
      split at h
      · rename_i e
        cases t with
        | zero => simp at h; exact .inr ⟨by omega, h.symm⟩
        | succ t =>
          simp only [List.getElem?_cons_succ] at h
          refine .inl ?_
          have e2 : ∀ (n t0 t : Nat) (s : SV), (spL [] n t0)[t]? = some s → s = .undef := by
            intro n
            induction n with
            | zero => intro t0 t s h; simp [spL] at h
            | succ n ih => intro t0 t s h; cases t with
              | zero => simp [spL] at h; exact h.symm
              | succ t => simp only [spL, List.getElem?_cons_succ] at h; exact ih _ _ _ h
          exact e2 _ _ _ _ h
      · cases t with
        | zero => simp at h; exact .inl h.symm
        | succ t =>
          simp only [List.getElem?_cons_succ] at h
          rcases ih (t0 + 1) t s h with e | ⟨e1, e2⟩
          · exact .inl e
          · exact .inr ⟨by omega, e2⟩
  rcases key n 0 t s h with e | ⟨e1, e2⟩
  · exact .inl e
  · exact .inr ⟨by omega, e2⟩

theorem x_copy' {P : Program} {a : Act} {w w' : World} {o : Oper} {T T2 e ty : TypeId} {x y : Operand} {k off dl dc m n cnt : Nat} {cs : Array Value} (hu : P.underlying T = some (.slice e)) (hz : P.cellsOf e = n) (hn : n ≠ 0) (hx : a.eval x = .slice (some ⟨k, off, none⟩) dl dc)
    (hl : (Builtin.lenOf (a.eval y)).run P w = .ok m w) (hcnt : Nat.min m dl = cnt) (hc : (Builtin.firstCells n cnt (a.eval y)).run P w = .ok cs w) (hs : (storeCells ⟨k, off, none⟩ cs.toList).run P w = .ok () w') :
    (execOp a.eval { o with op := .call ⟨.builtin .copy, #[x, y], #[T, T2]⟩, type := ty }).run P w = .ok (.value (goInt cnt)) w' := by
  subst hcnt
  exact x_copy hu hz hn hx hl hc hs

/-- What slices.Insert does behind the test whether it inserts at the end. -/
theorem SW.ins {P : Program} {T I B e : TypeId} {fo : Nat} {ik : IntKind} {ti : TypeInfo} {z : Value} {zd : D} {n : Nat} {xs ys : List D} {i : Int} {H : List SObj} {Q : Exit → St → Prop} {Z : Code} {i8 i9 i10 i11 i12 i13 i14 i15 i16 i17 : Nat}
    {o8_0 o8_1 o8_2 o8_3 o8_4 o8_5 o9_0 o9_1 o9_2 o9_3 o9_4 o9_5 o9_6 o9_7 o9_8 o9_9 o10_0 o10_1 o10_2 o10_3 o10_4 o11_0 o11_1 o11_2 o11_3 o11_4 o11_5 o11_6 o11_7 o11_8 o12_0 o12_1 o13_0 o13_1 o13_2 o13_3 o13_4 o13_5 o14_0 o14_1 o14_2 o14_3 o14_4 o14_5 o14_6 o14_7 o15_0 o15_1 o15_2 o15_3 o15_4 o15_5 o15_6 o15_7 o15_8 o16_0 o16_1 o16_2 o16_3 o16_4 o17_0 o17_1 : Oper}
    (hT : P.underlying T = some (.slice e)) (hI : P.underlying I = some (.int ik)) (hi : P.info? e = some ti) (hz : ti.zero = some z) (hzd : constD z = some zd) (hzn : z.cells.size = n) (hsize : ti.size = n) (hn : 0 < n) (hby : ti.bytes ≤ 65536)
    (hov : ∀ (args : Array Value) (w : World), (callFunc fo args).run P w = ((Extern.SlicesOverlaps.overlaps #[T, T] #[B] args).run P w).andThen fun v w' => .ok (.value v) w')
    (hm : P.follows .mixedOrders = true) (hB11 : Region.lexTailB .any #[o11_0, o11_1, o11_2, o11_3, o11_4, o11_5, o11_6, o11_7, o11_8] 8 = true) (hB15 : Region.lexTailB .any #[o15_0, o15_1, o15_2, o15_3, o15_4, o15_5, o15_6, o15_7, o15_8] 8 = true)
    (h8_0 : isOp o8_0 (some 26) (.move (.tmp 8)))
    (h8_1 : isOp o8_1 (some 27) (.move (.tmp 7)))
    (h8_2 : isOp o8_2 (some 28) (.binOp .add I (.tmp 26) (.tmp 27) I))
    (h8_3 : isOp o8_3 (some 29) (.move (.tmp 0)))
    (h8_4 : isOp o8_4 (some 30) (.call ⟨.builtin .cap, #[.tmp 29], #[T]⟩))
    (h8_5 : isOp o8_5 (some 31) (.binOp .gtr I (.tmp 28) (.tmp 30) I))
    (h9_0 : isOp o9_0 (some 32) (.move (.tmp 0)))
    (h9_1 : isOp o9_1 (some 33) (.move (.tmp 1)))
    (h9_2 : isOp o9_2 (some 34) (.slice T (.tmp 32) none (some (.tmp 33)) none))
    (h9_3 : isOp o9_3 (some 35) (.move (.tmp 8)))
    (h9_4 : isOp o9_4 (some 36) (.move (.tmp 7)))
    (h9_5 : isOp o9_5 (some 37) (.binOp .add I (.tmp 35) (.tmp 36) I))
    (h9_6 : isOp o9_6 (some 38) (.move (.tmp 1)))
    (h9_7 : isOp o9_7 (some 39) (.binOp .sub I (.tmp 37) (.tmp 38) I))
    (h9_8 : isOp o9_8 (some 40) (.call ⟨.builtin .append, #[.tmp 34, .tmp 39], #[T, I]⟩))
    (h9_9 : isOp o9_9 (some 9) (.assign (.tmp 40)))
    (h10_0 : isOp o10_0 (some 41) (.move (.tmp 9)))
    (h10_1 : isOp o10_1 (some 42) (.move (.tmp 1)))
    (h10_2 : isOp o10_2 (some 43) (.slice T (.tmp 41) (some (.tmp 42)) none none))
    (h10_3 : isOp o10_3 (some 44) (.move (.tmp 2)))
    (h10_4 : isOp o10_4 (some 45) (.call ⟨.builtin .copy, #[.tmp 43, .tmp 44], #[T, T]⟩))
    (h11_0 : isOp o11_0 (some 46) (.move (.tmp 9)))
    (h11_1 : isOp o11_1 (some 47) (.move (.tmp 1)))
    (h11_2 : isOp o11_2 (some 48) (.move (.tmp 7)))
    (h11_3 : isOp o11_3 (some 49) (.binOp .add I (.tmp 47) (.tmp 48) I))
    (h11_4 : isOp o11_4 (some 50) (.slice T (.tmp 46) (some (.tmp 49)) none none))
    (h11_5 : isOp o11_5 (some 51) (.move (.tmp 0)))
    (h11_6 : isOp o11_6 (some 52) (.move (.tmp 1)))
    (h11_7 : isOp o11_7 (some 53) (.slice T (.tmp 51) (some (.tmp 52)) none none))
    (h11_8 : isOp o11_8 (some 54) (.call ⟨.builtin .copy, #[.tmp 50, .tmp 53], #[T, T]⟩))
    (h12_0 : isOp o12_0 (some 55) (.move (.tmp 9)))
    (h12_1 : isOp o12_1 (some 6) (.assign (.tmp 55)))
    (h13_0 : isOp o13_0 (some 56) (.move (.tmp 0)))
    (h13_1 : isOp o13_1 (some 57) (.move (.tmp 8)))
    (h13_2 : isOp o13_2 (some 58) (.move (.tmp 7)))
    (h13_3 : isOp o13_3 (some 59) (.binOp .add I (.tmp 57) (.tmp 58) I))
    (h13_4 : isOp o13_4 (some 60) (.slice T (.tmp 56) none (some (.tmp 59)) none))
    (h13_5 : isOp o13_5 (some 0) (.assign (.tmp 60)))
    (h14_0 : isOp o14_0 (some 61) (.move (.tmp 2)))
    (h14_1 : isOp o14_1 (some 62) (.move (.tmp 0)))
    (h14_2 : isOp o14_2 (some 63) (.move (.tmp 1)))
    (h14_3 : isOp o14_3 (some 64) (.move (.tmp 7)))
    (h14_4 : isOp o14_4 (some 65) (.binOp .add I (.tmp 63) (.tmp 64) I))
    (h14_5 : isOp o14_5 (some 66) (.slice T (.tmp 62) (some (.tmp 65)) none none))
    (h14_6 : isOp o14_6 (some 67) (.call ⟨.value (.func fo), #[.tmp 61, .tmp 66], #[T, T]⟩))
    (h14_7 : isOp o14_7 (some 68) (.unOp .not B (.tmp 67)))
    (h15_0 : isOp o15_0 (some 69) (.move (.tmp 0)))
    (h15_1 : isOp o15_1 (some 70) (.move (.tmp 1)))
    (h15_2 : isOp o15_2 (some 71) (.move (.tmp 7)))
    (h15_3 : isOp o15_3 (some 72) (.binOp .add I (.tmp 70) (.tmp 71) I))
    (h15_4 : isOp o15_4 (some 73) (.slice T (.tmp 69) (some (.tmp 72)) none none))
    (h15_5 : isOp o15_5 (some 74) (.move (.tmp 0)))
    (h15_6 : isOp o15_6 (some 75) (.move (.tmp 1)))
    (h15_7 : isOp o15_7 (some 76) (.slice T (.tmp 74) (some (.tmp 75)) none none))
    (h15_8 : isOp o15_8 (some 77) (.call ⟨.builtin .copy, #[.tmp 73, .tmp 76], #[T, T]⟩))
    (h16_0 : isOp o16_0 (some 78) (.move (.tmp 0)))
    (h16_1 : isOp o16_1 (some 79) (.move (.tmp 1)))
    (h16_2 : isOp o16_2 (some 80) (.slice T (.tmp 78) (some (.tmp 79)) none none))
    (h16_3 : isOp o16_3 (some 81) (.move (.tmp 2)))
    (h16_4 : isOp o16_4 (some 82) (.call ⟨.builtin .copy, #[.tmp 80, .tmp 81], #[T, T]⟩))
    (h17_0 : isOp o17_0 (some 83) (.move (.tmp 0)))
    (h17_1 : isOp o17_1 (some 6) (.assign (.tmp 83)))
    (hc : (decide (0 ≤ i) && decide (i < xs.length) && decide (0 < ys.length) && decide (xs.length + ys.length ≤ room)) = true)
    (hq : Q .ret (sp 95 [(6, .own n (xs.take i.toNat ++ ys ++ xs.drop i.toNat))] H)) :
    SW P true (.seq (.seq (.region i8 #[o8_0, o8_1, o8_2, o8_3, o8_4, o8_5] false) (.cond (.tmp 31) (.seq (.region i9 #[o9_0, o9_1, o9_2, o9_3, o9_4, o9_5, o9_6, o9_7, o9_8, o9_9] false) (.seq (.region i10 #[o10_0, o10_1, o10_2, o10_3, o10_4] false) (.seq (.region i11 #[o11_0, o11_1, o11_2, o11_3, o11_4, o11_5, o11_6, o11_7, o11_8] true) (.seq (.region i12 #[o12_0, o12_1] false) .ret)))) .skip)) (.seq (.region i13 #[o13_0, o13_1, o13_2, o13_3, o13_4, o13_5] false) (.seq (.seq (.region i14 #[o14_0, o14_1, o14_2, o14_3, o14_4, o14_5, o14_6, o14_7] false) (.cond (.tmp 68) (.seq (.region i15 #[o15_0, o15_1, o15_2, o15_3, o15_4, o15_5, o15_6, o15_7, o15_8] true) (.seq (.region i16 #[o16_0, o16_1, o16_2, o16_3, o16_4] false) (.seq (.region i17 #[o17_0, o17_1] false) .ret))) .skip)) Z))) (sp 95 [(0, .own n xs), (1, vI i), (2, .d (.list n ys)), (7, vI ys.length), (8, vI xs.length)] H) Q := by
  intro a w g hr
  simp only [Bool.and_eq_true, decide_eq_true_eq] at hc
  obtain ⟨⟨⟨i0, il⟩, m0⟩, hroom⟩ := hc
  obtain ⟨i, rfl⟩ : ∃ p : Nat, i = (p : Int) := ⟨i.toNat, by omega⟩
  simp only [Int.toNat_natCast] at hq
  have il : i < xs.length := by omega
  unfold room at hroom
  have hce : P.cellsOf e = n := by simp [Program.cellsOf, hi, hsize]
  have hn0 : P.cellsOf e ≠ 0 := by omega
  have hsz : a.tmps.size = 95 := by rw [hr.len]; simp [sp, spL_len]
  have g0 : ROwn g w (.slot 0) (valOf a 0) n xs := hr.tmp 0 (.own n xs) rfl
  have e1 : a.eval (.tmp 1) = .int .i64 (i : Int) := valD_leaf hr (d := .int .i64 (i : Int)) rfl rfl
  have e7 : a.eval (.tmp 7) = .int .i64 (ys.length : Int) := valD_leaf hr (d := .int .i64 (ys.length : Int)) rfl rfl
  have e8 : a.eval (.tmp 8) = .int .i64 (xs.length : Int) := valD_leaf hr (d := .int .i64 (xs.length : Int)) rfl rfl
  rcases g0 with ⟨rfl, -⟩ | ⟨k, off, cap, c, T0, us, hv, hk, hb, hl, hzz, hw, hcc, hrr⟩
  · simp at il
  have e0 : a.eval (.tmp 0) = .slice (some ⟨k, off, none⟩) xs.length cap := hv
  rcases (hr.tmp 2 (.d (.list n ys)) rfl : Rd g w (valOf a 2) (.list n ys)).toList with ⟨rfl, -⟩ | ⟨kv, ov, cv, av, Tv, fz, uv, hv2, hk2, hb2, hl2, hw2, hcc2, hrr2⟩
  · simp at m0
  have e2 : a.eval (.tmp 2) = .slice (some ⟨kv, ov, none⟩) ys.length cv := hv2
  have hkv : g.ow kv = .free := okL_free.1 hk2
  have hne : kv ≠ k := by rintro rfl; rw [hk] at hkv; cases hkv
  have hdef := hr.def0
  have flx := ROwn.flatC (g := g) (w := w) (k := k) (T := T0) (o := .slot 0) hn rfl hl hzz hw hcc hrr
  have hav : ov + ys.length * n ≤ av.size := by
    have hx : ys[ys.length - 1]? = some ys[ys.length - 1] := by simp [m0]
    have hcl := hw2 _ _ hx
    obtain ⟨h1, -⟩ := hcc2 _ _ hx (n - 1) (ys[ys.length - 1].cells[n - 1]'(by omega)) (by simp)
    have := arr_lt h1
    have h2 : ys.length * n = (ys.length - 1) * n + n := by
      obtain ⟨m, hm⟩ : ∃ m, ys.length = m + 1 := ⟨ys.length - 1, by omega⟩
      rw [hm, Nat.add_sub_cancel, Nat.succ_mul]
    omega
  have fly : RFlat g w (av.extract ov (ov + ys.length * n)) n ys := by
    refine ⟨by simp [Nat.min_eq_left hav], hw2, fun p x hx j y hy => ⟨uv p j, ?_, hrr2 p x hx j y hy, (hcc2 p x hx j y hy).2⟩⟩
    have hj : j < n := by rw [← hw2 p x hx]; exact get_lt hy
    have := get_lt hx
    have : (p + 1) * n ≤ ys.length * n := Nat.mul_le_mul_right _ this
    rw [Nat.succ_mul] at this
    rw [Array.getElem?_extract, if_pos (by omega), ← Nat.add_assoc]
    exact (hcc2 p x hx j y hy).1
  have hin : i * n + (xs.length - i) * n = xs.length * n := by rw [← Nat.add_mul]; congr 1; omega
  have hcapn : xs.length * n ≤ cap * n := Nat.mul_le_mul_right _ hl
  have hmn : 0 < ys.length * n := Nat.mul_pos m0 hn
  let zs := xs.take i ++ ys ++ xs.drop i
  have hzl : zs.length = xs.length + ys.length := by simp [zs]; omega
  have flz : RFlat g w ((c.extract off (off + xs.length * n)).extract 0 (i * n) ++ av.extract ov (ov + ys.length * n) ++ (c.extract off (off + xs.length * n)).extract (i * n) (xs.length * n)) n zs := ((flx.take (by omega)).append fly).append (flx.drop (by omega))
  have hf1 : ((c.extract off (off + xs.length * n)).extract 0 (i * n)).size = i * n := by rw [(flx.take (i := i) (by omega)).1, List.length_take, Nat.min_eq_left (by omega)]
  have hf2 : (av.extract ov (ov + ys.length * n)).size = ys.length * n := fly.1
  have hflat : ∀ q, q < zs.length * n → ((c.extract off (off + xs.length * n)).extract 0 (i * n) ++ av.extract ov (ov + ys.length * n) ++ (c.extract off (off + xs.length * n)).extract (i * n) (xs.length * n))[q]? = if q < i * n then c[off + q]? else if q < i * n + ys.length * n then av[ov + (q - i * n)]? else c[off + (q - ys.length * n)]? := fun q hq => by
    rw [hzl, Nat.add_mul] at hq
    have hszF := flx.1
    split
    · rw [Array.append_assoc, Array.getElem?_append_left (by omega), Array.getElem?_extract, if_pos (by omega), Array.getElem?_extract, if_pos (by omega)]
      congr 1; omega
    · split
      · rw [Array.append_assoc, Array.getElem?_append_right (by omega), hf1, Array.getElem?_append_left (by omega), Array.getElem?_extract, if_pos (by omega)]
      · rw [Array.append_assoc, Array.getElem?_append_right (by omega), hf1, Array.getElem?_append_right (by omega), hf2, Array.getElem?_extract, if_pos (by omega), Array.getElem?_extract, if_pos (by omega)]
        congr 1; omega
  have fin : ∀ (a' : Act) (w' : World) (g' : Gh) (v : Value), a'.tmps.size = 95 → a'.defers = [] → a'.eval (.tmp 6) = v → ROwn g' w' (.slot 6) v n zs → (∀ o, o ≠ .lst (.slot 0) → Keep o g w g' w') → g'.ρ = g.ρ → w.heap.size ≤ w'.heap.size → SameOs w w' → ∃ st' g', Q .ret st' ∧ Rel st' a' w' g' ∧ Fr true g w g' w' := fun a' w' g' v h1 h2 h3 h4 h5 h6 h7 h8 => by
    refine ⟨_, g', hq, ⟨by rw [h1]; simp [sp, spL_len], h2, fun t s hs => ?_, ?_⟩, Fr.keepBut (l := .slot 0) (by simp) h7 h5 h6 h8⟩
    · rcases sp_one hs with rfl | ⟨rfl, rfl⟩
      · trivial
      · show ROwn g' w' (.slot 6) (a'.eval (.tmp 6)) n zs
        rw [h3]; exact h4
    · exact hr.hp.keep (fun o ho => h5 o fun e => by subst e; exact ho.elim) (fun _ _ h => by rw [h6]; exact h) (by rw [h6])
  refine wp_seq (wp_seq (wp_region_lit (l := [o8_0, o8_1, o8_2, o8_3, o8_4, o8_5]) ?_))
  refine list_val h8_0 (w' := w) (v := .int .i64 (xs.length : Int)) (fun _ => by rw [x_move]; simp [ev_ne, ev_eq, put_sz, hsz, e0, e1, e2, e7, e8]) ?_
  refine list_val h8_1 (w' := w) (v := .int .i64 (ys.length : Int)) (fun _ => by rw [x_move]; simp [ev_ne, ev_eq, put_sz, hsz, e0, e1, e2, e7, e8]) ?_
  refine list_val h8_2 (w' := w) (v := .int .i64 ((xs.length : Int) + (ys.length : Int))) (fun _ => x_add (by simp [ev_ne, ev_eq, put_sz, hsz, e0, e1, e2, e7, e8]) (by simp [ev_ne, ev_eq, put_sz, hsz, e0, e1, e2, e7, e8]) (by constructor <;> omega)) ?_
  refine list_val h8_3 (w' := w) (v := .slice (some ⟨k, off, none⟩) (xs.length) (cap)) (fun _ => by rw [x_move]; simp [ev_ne, ev_eq, put_sz, hsz, e0, e1, e2, e7, e8]) ?_
  refine list_val h8_4 (w' := w) (v := goInt cap) (fun _ => x_cap (b := some ⟨k, off, none⟩) (n := xs.length) hT (by simp [ev_ne, ev_eq, put_sz, hsz, e0, e1, e2, e7, e8])) ?_
  refine list_val h8_5 (w' := w) (v := .bool (decide ((xs.length : Int) + (ys.length : Int) > (cap : Int)))) (fun _ => x_gtr (by simp [ev_ne, ev_eq, put_sz, hsz, e0, e1, e2, e7, e8]) (by simp [ev_ne, ev_eq, put_sz, hsz]; rfl)) ?_
  generalize hA : (((((a.put (some 26) (.int .i64 (xs.length : Int))).put (some 27) (.int .i64 (ys.length : Int))).put (some 28) (.int .i64 ((xs.length : Int) + (ys.length : Int)))).put (some 29) (.slice (some ⟨k, off, none⟩) (xs.length) (cap))).put (some 30) (goInt cap)).put (some 31) (.bool (decide ((xs.length : Int) + (ys.length : Int) > (cap : Int)))) = b
  have e0' : b.eval (.tmp 0) = .slice (some ⟨k, off, none⟩) (xs.length) (cap) := by subst hA; simp [ev_ne, ev_eq, put_sz, hsz, e0, e1, e2, e7, e8]
  have e1' : b.eval (.tmp 1) = .int .i64 (i : Int) := by subst hA; simp [ev_ne, ev_eq, put_sz, hsz, e0, e1, e2, e7, e8]
  have e2' : b.eval (.tmp 2) = .slice (some ⟨kv, ov, none⟩) (ys.length) (cv) := by subst hA; simp [ev_ne, ev_eq, put_sz, hsz, e0, e1, e2, e7, e8]
  have e7' : b.eval (.tmp 7) = .int .i64 (ys.length : Int) := by subst hA; simp [ev_ne, ev_eq, put_sz, hsz, e0, e1, e2, e7, e8]
  have e8' : b.eval (.tmp 8) = .int .i64 (xs.length : Int) := by subst hA; simp [ev_ne, ev_eq, put_sz, hsz, e0, e1, e2, e7, e8]
  have n31' : b.eval (.tmp 31) = .bool (decide ((xs.length : Int) + (ys.length : Int) > (cap : Int))) := by subst hA; simp [ev_ne, ev_eq, put_sz, hsz, e0, e1, e2, e7, e8]
  have hsz' : b.tmps.size = 95 := by subst hA; simp [put_sz, hsz, e0, e1, e2, e7, e8]
  have hdef' : b.defers = [] := by subst hA; simpa [put_defers'] using hdef
  clear hA hsz hdef e0 e1 e2 e7 e8
  have e0 := e0'
  have e1 := e1'
  have e2 := e2'
  have e7 := e7'
  have e8 := e8'
  have n31 := n31'
  have hsz := hsz'
  have hdef := hdef'
  clear hsz' hdef' e0' e1' e2' e7' e8' n31'
  refine wp_cond n31 ?_
  by_cases hroomy : xs.length + ys.length ≤ cap
  · rw [show decide ((xs.length : Int) + (ys.length : Int) > (cap : Int)) = false by simp; omega]
    refine wp_skip (wp_seq (wp_region_lit (l := [o13_0, o13_1, o13_2, o13_3, o13_4, o13_5]) ?_))
    refine list_val h13_0 (w' := w) (v := .slice (some ⟨k, off, none⟩) (xs.length) (cap)) (fun _ => by rw [x_move]; simp [ev_ne, ev_eq, put_sz, hsz, e0, e1, e2, e7, e8]) ?_
    refine list_val h13_1 (w' := w) (v := .int .i64 (xs.length : Int)) (fun _ => by rw [x_move]; simp [ev_ne, ev_eq, put_sz, hsz, e0, e1, e2, e7, e8]) ?_
    refine list_val h13_2 (w' := w) (v := .int .i64 (ys.length : Int)) (fun _ => by rw [x_move]; simp [ev_ne, ev_eq, put_sz, hsz, e0, e1, e2, e7, e8]) ?_
    refine list_val h13_3 (w' := w) (v := .int .i64 ((xs.length : Int) + (ys.length : Int))) (fun _ => x_add (by simp [ev_ne, ev_eq, put_sz, hsz, e0, e1, e2, e7, e8]) (by simp [ev_ne, ev_eq, put_sz, hsz, e0, e1, e2, e7, e8]) (by constructor <;> omega)) ?_
    refine list_val h13_4 (w' := w) (v := .slice (some ⟨k, off, none⟩) (xs.length + ys.length) (cap)) (fun _ => by rw [x_sliceHi (k := k) (off := off) (len := xs.length) (cap := cap) (i := (xs.length : Int) + (ys.length : Int)) hT hn0 (by simp [ev_ne, ev_eq, put_sz, hsz, e0, e1, e2, e7, e8]) (by simp [ev_ne, ev_eq, put_sz, hsz, e0, e1, e2, e7, e8]) (by omega) (by omega)]; rw [show ((xs.length : Int) + (ys.length : Int)).toNat = xs.length + ys.length by omega]) ?_
    refine list_val h13_5 (w' := w) (v := .slice (some ⟨k, off, none⟩) (xs.length + ys.length) (cap)) (fun _ => by rw [x_assign]; simp [ev_ne, ev_eq, put_sz, hsz, e0, e1, e2, e7, e8]) ?_
    generalize hA : (((((b.put (some 56) (.slice (some ⟨k, off, none⟩) (xs.length) (cap))).put (some 57) (.int .i64 (xs.length : Int))).put (some 58) (.int .i64 (ys.length : Int))).put (some 59) (.int .i64 ((xs.length : Int) + (ys.length : Int)))).put (some 60) (.slice (some ⟨k, off, none⟩) (xs.length + ys.length) (cap))).put (some 0) (.slice (some ⟨k, off, none⟩) (xs.length + ys.length) (cap)) = b2
    have e0' : b2.eval (.tmp 0) = .slice (some ⟨k, off, none⟩) (xs.length + ys.length) (cap) := by subst hA; simp [ev_ne, ev_eq, put_sz, hsz, e0, e1, e2, e7, e8]
    have e1' : b2.eval (.tmp 1) = .int .i64 (i : Int) := by subst hA; simp [ev_ne, ev_eq, put_sz, hsz, e0, e1, e2, e7, e8]
    have e2' : b2.eval (.tmp 2) = .slice (some ⟨kv, ov, none⟩) (ys.length) (cv) := by subst hA; simp [ev_ne, ev_eq, put_sz, hsz, e0, e1, e2, e7, e8]
    have e7' : b2.eval (.tmp 7) = .int .i64 (ys.length : Int) := by subst hA; simp [ev_ne, ev_eq, put_sz, hsz, e0, e1, e2, e7, e8]
    have e8' : b2.eval (.tmp 8) = .int .i64 (xs.length : Int) := by subst hA; simp [ev_ne, ev_eq, put_sz, hsz, e0, e1, e2, e7, e8]
    have hsz' : b2.tmps.size = 95 := by subst hA; simp [put_sz, hsz, e0, e1, e2, e7, e8]
    have hdef' : b2.defers = [] := by subst hA; simpa [put_defers'] using hdef
    clear hA hsz hdef e0 e1 e2 e7 e8
    have e0 := e0'
    have e1 := e1'
    have e2 := e2'
    have e7 := e7'
    have e8 := e8'
    have hsz := hsz'
    have hdef := hdef'
    clear hsz' hdef' e0' e1' e2' e7' e8'
    refine wp_seq (wp_seq (wp_region_lit (l := [o14_0, o14_1, o14_2, o14_3, o14_4, o14_5, o14_6, o14_7]) ?_))
    refine list_val h14_0 (w' := w) (v := .slice (some ⟨kv, ov, none⟩) (ys.length) (cv)) (fun _ => by rw [x_move]; simp [ev_ne, ev_eq, put_sz, hsz, e0, e1, e2, e7, e8]) ?_
    refine list_val h14_1 (w' := w) (v := .slice (some ⟨k, off, none⟩) (xs.length + ys.length) (cap)) (fun _ => by rw [x_move]; simp [ev_ne, ev_eq, put_sz, hsz, e0, e1, e2, e7, e8]) ?_
    refine list_val h14_2 (w' := w) (v := .int .i64 (i : Int)) (fun _ => by rw [x_move]; simp [ev_ne, ev_eq, put_sz, hsz, e0, e1, e2, e7, e8]) ?_
    refine list_val h14_3 (w' := w) (v := .int .i64 (ys.length : Int)) (fun _ => by rw [x_move]; simp [ev_ne, ev_eq, put_sz, hsz, e0, e1, e2, e7, e8]) ?_
    refine list_val h14_4 (w' := w) (v := .int .i64 ((i : Int) + (ys.length : Int))) (fun _ => x_add (by simp [ev_ne, ev_eq, put_sz, hsz, e0, e1, e2, e7, e8]) (by simp [ev_ne, ev_eq, put_sz, hsz, e0, e1, e2, e7, e8]) (by constructor <;> omega)) ?_
    refine list_val h14_5 (w' := w) (v := .slice (some ⟨k, off + (i + ys.length) * n, none⟩) (xs.length + ys.length - (i + ys.length)) (cap - (i + ys.length))) (fun _ => by rw [x_sliceLo (k := k) (off := off) (len := xs.length + ys.length) (cap := cap) (i := (i : Int) + (ys.length : Int)) hT hn0 (by simp [ev_ne, ev_eq, put_sz, hsz, e0, e1, e2, e7, e8]) (by simp [ev_ne, ev_eq, put_sz, hsz, e0, e1, e2, e7, e8]) (by omega) (by omega), hce]; rw [show ((i : Int) + (ys.length : Int)).toNat = i + ys.length by omega, if_neg (by omega)]) ?_
    refine list_val h14_6 (w' := w) (v := .bool false) (fun _ => ?_) ?_
    · have hovr := run_overlaps (P := P) (T := T) (ps := #[T, T]) (rs := #[B]) (ov := ov) (cv := cv) (o2 := off + (i + ys.length) * n) (cb := cap - (i + ys.length)) (m := ys.length) (lb := xs.length + ys.length - (i + ys.length)) rfl hT hn0 hb2 hb hne m0 (by omega) (by omega)
      rw [x_callF, hov]
      simp only [ev_ne (show (66 : Nat) ≠ 61 by decide), ev_ne (show (65 : Nat) ≠ 61 by decide), ev_ne (show (64 : Nat) ≠ 61 by decide), ev_ne (show (63 : Nat) ≠ 61 by decide), ev_ne (show (62 : Nat) ≠ 61 by decide)]
      rw [ev_eq (by omega), ev_eq (by simp only [put_sz]; omega), hovr]
      rfl
    refine list_val h14_7 (w' := w) (v := .bool true) (fun _ => x_not (b := false) (by simp [ev_ne, ev_eq, put_sz, hsz, e0, e1, e2, e7, e8])) ?_
    generalize hA : (((((((b2.put (some 61) (.slice (some ⟨kv, ov, none⟩) (ys.length) (cv))).put (some 62) (.slice (some ⟨k, off, none⟩) (xs.length + ys.length) (cap))).put (some 63) (.int .i64 (i : Int))).put (some 64) (.int .i64 (ys.length : Int))).put (some 65) (.int .i64 ((i : Int) + (ys.length : Int)))).put (some 66) (.slice (some ⟨k, off + (i + ys.length) * n, none⟩) (xs.length + ys.length - (i + ys.length)) (cap - (i + ys.length)))).put (some 67) (.bool false)).put (some 68) (.bool true) = b3
    have e0' : b3.eval (.tmp 0) = .slice (some ⟨k, off, none⟩) (xs.length + ys.length) (cap) := by subst hA; simp [ev_ne, ev_eq, put_sz, hsz, e0, e1, e2, e7, e8]
    have e1' : b3.eval (.tmp 1) = .int .i64 (i : Int) := by subst hA; simp [ev_ne, ev_eq, put_sz, hsz, e0, e1, e2, e7, e8]
    have e2' : b3.eval (.tmp 2) = .slice (some ⟨kv, ov, none⟩) (ys.length) (cv) := by subst hA; simp [ev_ne, ev_eq, put_sz, hsz, e0, e1, e2, e7, e8]
    have e7' : b3.eval (.tmp 7) = .int .i64 (ys.length : Int) := by subst hA; simp [ev_ne, ev_eq, put_sz, hsz, e0, e1, e2, e7, e8]
    have e8' : b3.eval (.tmp 8) = .int .i64 (xs.length : Int) := by subst hA; simp [ev_ne, ev_eq, put_sz, hsz, e0, e1, e2, e7, e8]
    have n68' : b3.eval (.tmp 68) = .bool true := by subst hA; simp [ev_ne, ev_eq, put_sz, hsz, e0, e1, e2, e7, e8]
    have hsz' : b3.tmps.size = 95 := by subst hA; simp [put_sz, hsz, e0, e1, e2, e7, e8]
    have hdef' : b3.defers = [] := by subst hA; simpa [put_defers'] using hdef
    clear hA hsz hdef e0 e1 e2 e7 e8
    have e0 := e0'
    have e1 := e1'
    have e2 := e2'
    have e7 := e7'
    have e8 := e8'
    have n68 := n68'
    have hsz := hsz'
    have hdef := hdef'
    clear hsz' hdef' e0' e1' e2' e7' e8' n68'
    refine wp_cond_true n68 (wp_seq (wp_region_still_tail (l := [o15_0, o15_1, o15_2, o15_3, o15_4, o15_5, o15_6, o15_7, o15_8]) 8 hm hB15 ?_))
    show wpStill P _ w.drew (fun a' => wpList P _ _ [o15_8] a' w.drew) [o15_0, o15_1, o15_2, o15_3, o15_4, o15_5, o15_6, o15_7] b3
    refine still_val h15_0 (v := .slice (some ⟨k, off, none⟩) (xs.length + ys.length) (cap)) (fun _ => by rw [x_move]; simp [ev_ne, ev_eq, put_sz, hsz, e0, e1, e2, e7, e8]) ?_
    refine still_val h15_1 (v := .int .i64 (i : Int)) (fun _ => by rw [x_move]; simp [ev_ne, ev_eq, put_sz, hsz, e0, e1, e2, e7, e8]) ?_
    refine still_val h15_2 (v := .int .i64 (ys.length : Int)) (fun _ => by rw [x_move]; simp [ev_ne, ev_eq, put_sz, hsz, e0, e1, e2, e7, e8]) ?_
    refine still_val h15_3 (v := .int .i64 ((i : Int) + (ys.length : Int))) (fun _ => x_add (by simp [ev_ne, ev_eq, put_sz, hsz, e0, e1, e2, e7, e8]) (by simp [ev_ne, ev_eq, put_sz, hsz, e0, e1, e2, e7, e8]) (by constructor <;> omega)) ?_
    refine still_val h15_4 (v := .slice (some ⟨k, off + (i + ys.length) * n, none⟩) (xs.length + ys.length - (i + ys.length)) (cap - (i + ys.length))) (fun _ => by rw [x_sliceLo (k := k) (off := off) (len := xs.length + ys.length) (cap := cap) (i := (i : Int) + (ys.length : Int)) hT hn0 (by simp [ev_ne, ev_eq, put_sz, hsz, e0, e1, e2, e7, e8]) (by simp [ev_ne, ev_eq, put_sz, hsz, e0, e1, e2, e7, e8]) (by omega) (by omega), hce]; rw [show ((i : Int) + (ys.length : Int)).toNat = i + ys.length by omega, if_neg (by omega)]) ?_
    refine still_val h15_5 (v := .slice (some ⟨k, off, none⟩) (xs.length + ys.length) (cap)) (fun _ => by rw [x_move]; simp [ev_ne, ev_eq, put_sz, hsz, e0, e1, e2, e7, e8]) ?_
    refine still_val h15_6 (v := .int .i64 (i : Int)) (fun _ => by rw [x_move]; simp [ev_ne, ev_eq, put_sz, hsz, e0, e1, e2, e7, e8]) ?_
    refine still_val h15_7 (v := .slice (some ⟨k, off + i * n, none⟩) (xs.length + ys.length - i) (cap - i)) (fun _ => by rw [x_sliceLo (k := k) (off := off) (len := xs.length + ys.length) (cap := cap) (i := (i : Int)) hT hn0 (by simp [ev_ne, ev_eq, put_sz, hsz, e0, e1, e2, e7, e8]) (by simp [ev_ne, ev_eq, put_sz, hsz, e0, e1, e2, e7, e8]) (by omega) (by omega), hce]; rw [show ((i : Int)).toNat = i by omega, if_neg (by omega)]) ?_
    generalize hA : (((((((b3.put (some 69) (.slice (some ⟨k, off, none⟩) (xs.length + ys.length) (cap))).put (some 70) (.int .i64 (i : Int))).put (some 71) (.int .i64 (ys.length : Int))).put (some 72) (.int .i64 ((i : Int) + (ys.length : Int)))).put (some 73) (.slice (some ⟨k, off + (i + ys.length) * n, none⟩) (xs.length + ys.length - (i + ys.length)) (cap - (i + ys.length)))).put (some 74) (.slice (some ⟨k, off, none⟩) (xs.length + ys.length) (cap))).put (some 75) (.int .i64 (i : Int))).put (some 76) (.slice (some ⟨k, off + i * n, none⟩) (xs.length + ys.length - i) (cap - i)) = b4
    have e0' : b4.eval (.tmp 0) = .slice (some ⟨k, off, none⟩) (xs.length + ys.length) (cap) := by subst hA; simp [ev_ne, ev_eq, put_sz, hsz, e0, e1, e2, e7, e8]
    have e1' : b4.eval (.tmp 1) = .int .i64 (i : Int) := by subst hA; simp [ev_ne, ev_eq, put_sz, hsz, e0, e1, e2, e7, e8]
    have e2' : b4.eval (.tmp 2) = .slice (some ⟨kv, ov, none⟩) (ys.length) (cv) := by subst hA; simp [ev_ne, ev_eq, put_sz, hsz, e0, e1, e2, e7, e8]
    have e7' : b4.eval (.tmp 7) = .int .i64 (ys.length : Int) := by subst hA; simp [ev_ne, ev_eq, put_sz, hsz, e0, e1, e2, e7, e8]
    have e8' : b4.eval (.tmp 8) = .int .i64 (xs.length : Int) := by subst hA; simp [ev_ne, ev_eq, put_sz, hsz, e0, e1, e2, e7, e8]
    have n73' : b4.eval (.tmp 73) = .slice (some ⟨k, off + (i + ys.length) * n, none⟩) (xs.length + ys.length - (i + ys.length)) (cap - (i + ys.length)) := by subst hA; simp [ev_ne, ev_eq, put_sz, hsz, e0, e1, e2, e7, e8]
    have n76' : b4.eval (.tmp 76) = .slice (some ⟨k, off + i * n, none⟩) (xs.length + ys.length - i) (cap - i) := by subst hA; simp [ev_ne, ev_eq, put_sz, hsz, e0, e1, e2, e7, e8]
    have hsz' : b4.tmps.size = 95 := by subst hA; simp [put_sz, hsz, e0, e1, e2, e7, e8]
    have hdef' : b4.defers = [] := by subst hA; simpa [put_defers'] using hdef
    clear hA hsz hdef e0 e1 e2 e7 e8
    have e0 := e0'
    have e1 := e1'
    have e2 := e2'
    have e7 := e7'
    have e8 := e8'
    have n73 := n73'
    have n76 := n76'
    have hsz := hsz'
    have hdef := hdef'
    clear hsz' hdef' e0' e1' e2' e7' e8' n73' n76'
    have hbd : w.drew.heap[k]? = some (.cells c T0 (0, 0)) := hb
    have hcapM : (xs.length + ys.length) * n ≤ cap * n := Nat.mul_le_mul_right _ hroomy
    rw [Nat.add_mul] at hcapM
    have him : (i + ys.length) * n = i * n + ys.length * n := Nat.add_mul _ _ _
    have htl : (c.extract (off + i * n) (off + i * n + (xs.length - i) * n)).size = (xs.length - i) * n := by simp; omega
    have hone1 : ∀ v ∈ (c.extract (off + i * n) (off + i * n + (xs.length - i) * n)).toList, v.oneCell' = true := by
      have := flx.one
      intro v hv
      refine this v ?_
      simp only [Array.mem_toList_iff, Array.mem_extract_iff_getElem] at hv ⊢
      obtain ⟨q, hq1, rfl⟩ := hv
      exact ⟨i * n + q, by omega, by congr 1; omega⟩
    obtain ⟨w1, q1, q2, q3, c1, q4, q5, q6⟩ := run_storeCells' (P := P) k (off + (i + ys.length) * n) T0 (c.extract (off + i * n) (off + i * n + (xs.length - i) * n)).toList 0 c w.drew hbd (by simp only [Array.length_toList, htl]; omega) hone1
    have osw1 := storeCells_os (P := P) k (off + (i + ys.length) * n) T0 (c.extract (off + i * n) (off + i * n + (xs.length - i) * n)).toList 0 c w.drew w1 hbd (by simp only [Array.length_toList, htl]; omega) hone1 q1
    refine list_val h15_8 (w' := w1) (v := goInt ((xs.length - i : Nat) : Int).toNat) (fun _ => ?_) ?_
    · rw [Int.toNat_natCast]
      refine x_copy' (m := xs.length + ys.length - i) (cs := c.extract (off + i * n) (off + i * n + (xs.length - i) * n)) hT hce (by omega) n73 (by rw [n76]; rfl) (by rw [show xs.length + ys.length - (i + ys.length) = xs.length - i by omega]; exact Nat.min_eq_right (by omega)) ?_ q1
      rw [n76]
      simp only [Builtin.firstCells]
      exact run_cells (P := P) hbd (by omega)
    generalize hA : b4.put (some 77) (goInt ((xs.length - i : Nat) : Int).toNat) = b5
    have e0' : b5.eval (.tmp 0) = .slice (some ⟨k, off, none⟩) (xs.length + ys.length) (cap) := by subst hA; simp [ev_ne, ev_eq, put_sz, hsz, e0, e1, e2, e7, e8]
    have e1' : b5.eval (.tmp 1) = .int .i64 (i : Int) := by subst hA; simp [ev_ne, ev_eq, put_sz, hsz, e0, e1, e2, e7, e8]
    have e2' : b5.eval (.tmp 2) = .slice (some ⟨kv, ov, none⟩) (ys.length) (cv) := by subst hA; simp [ev_ne, ev_eq, put_sz, hsz, e0, e1, e2, e7, e8]
    have e7' : b5.eval (.tmp 7) = .int .i64 (ys.length : Int) := by subst hA; simp [ev_ne, ev_eq, put_sz, hsz, e0, e1, e2, e7, e8]
    have e8' : b5.eval (.tmp 8) = .int .i64 (xs.length : Int) := by subst hA; simp [ev_ne, ev_eq, put_sz, hsz, e0, e1, e2, e7, e8]
    have hsz' : b5.tmps.size = 95 := by subst hA; simp [put_sz, hsz]
    have hdef' : b5.defers = [] := by subst hA; simpa [put_defers'] using hdef
    clear hA hsz hdef e0 e1 e2 e7 e8
    have e0 := e0'
    have e1 := e1'
    have e2 := e2'
    have e7 := e7'
    have e8 := e8'
    have hsz := hsz'
    have hdef := hdef'
    refine wp_seq (wp_region_lit (l := [o16_0, o16_1, o16_2, o16_3, o16_4]) ?_)
    refine list_val h16_0 (w' := w1) (v := .slice (some ⟨k, off, none⟩) (xs.length + ys.length) (cap)) (fun _ => by rw [x_move]; simp [ev_ne, ev_eq, put_sz, hsz, e0, e1, e2, e7, e8]) ?_
    refine list_val h16_1 (w' := w1) (v := .int .i64 (i : Int)) (fun _ => by rw [x_move]; simp [ev_ne, ev_eq, put_sz, hsz, e0, e1, e2, e7, e8]) ?_
    refine list_val h16_2 (w' := w1) (v := .slice (some ⟨k, off + i * n, none⟩) (xs.length + ys.length - i) (cap - i)) (fun _ => by rw [x_sliceLo (k := k) (off := off) (len := xs.length + ys.length) (cap := cap) (i := (i : Int)) hT hn0 (by simp [ev_ne, ev_eq, put_sz, hsz, e0, e1, e2, e7, e8]) (by simp [ev_ne, ev_eq, put_sz, hsz, e0, e1, e2, e7, e8]) (by omega) (by omega), hce]; rw [show ((i : Int)).toNat = i by omega, if_neg (by omega)]) ?_
    refine list_val h16_3 (w' := w1) (v := .slice (some ⟨kv, ov, none⟩) (ys.length) (cv)) (fun _ => by rw [x_move]; simp [ev_ne, ev_eq, put_sz, hsz, e0, e1, e2, e7, e8]) ?_
    have hb2' : w1.heap[kv]? = some (.cells av Tv fz) := by rw [q3 kv hne]; exact hb2
    obtain ⟨w2, p1, p2, p3, c2, p4, p5, p6⟩ := run_storeCells' (P := P) k (off + i * n) T0 (av.extract ov (ov + ys.length * n)).toList 0 c1 w1 q4 (by simp only [Array.length_toList, hf2]; omega) fly.one
    have osw2 := storeCells_os (P := P) k (off + i * n) T0 (av.extract ov (ov + ys.length * n)).toList 0 c1 w1 w2 q4 (by simp only [Array.length_toList, hf2]; omega) fly.one p1
    refine list_val h16_4 (w' := w2) (v := goInt ys.length) (fun _ => ?_) ?_
    · refine x_copy' (m := ys.length) (dl := xs.length + ys.length - i) (dc := cap - i) (off := off + i * n) (k := k) (cs := av.extract ov (ov + ys.length * n)) hT hce (by omega) (by simp [ev_ne, ev_eq, put_sz, hsz]) (by simp [ev_ne, ev_eq, put_sz, hsz, Builtin.lenOf]) (Nat.min_eq_left (by omega)) ?_ p1
      simp only [ev_eq, put_sz, hsz, Nat.reduceLT, Builtin.firstCells]
      exact run_cells (P := P) hb2' hav
    refine wp_seq (wp_region_lit (l := [o17_0, o17_1]) ?_)
    refine list_val h17_0 (w' := w2) (v := .slice (some ⟨k, off, none⟩) (xs.length + ys.length) (cap)) (fun _ => by rw [x_move]; simp [ev_ne, ev_eq, put_sz, hsz, e0, e1, e2, e7, e8]) ?_
    refine list_val h17_1 (w' := w2) (v := .slice (some ⟨k, off, none⟩) (xs.length + ys.length) (cap)) (fun _ => by rw [x_assign]; simp [ev_ne, ev_eq, put_sz, hsz, e0, e1, e2, e7, e8]) ?_
    refine wp_ret ?_
    have hk2 : ∀ o, o ≠ .lst (.slot 0) → Keep o g w (g.ren (rnL (.slot 0) (.slot 6))) w2 := fun o ho k' b' h1 h2 => by
      have hkk : k' ≠ k := by rintro rfl; exact ho (h1.symm.trans hk)
      exact ⟨by simp only [Gh.ren, h1]; exact rnL_other ho, by rw [p3 k' hkk, q3 k' hkk]; exact h2⟩
    refine fin _ w2 (g.ren (rnL (.slot 0) (.slot 6))) (.slice (some ⟨k, off, none⟩) (xs.length + ys.length) cap) (by simp [put_sz, hsz]) (by simpa [put_defers'] using hdef) (by simp [ev_eq, put_sz, hsz]) ?_ hk2 rfl (by rw [p2, q2]; exact Nat.le_refl _) (osw1.trans osw2)
    rw [← hzl]
    refine ROwn.win flz p4 (by simp [Gh.ren, hk, rnL_same]) (by omega) (by rw [p5, q5]; exact hzz) (fun q hq => ?_) (hk2 _ (by simp)) (fun _ _ h => h)
    rw [hflat q hq]
    rw [hzl, Nat.add_mul] at hq
    rw [p6, q6]
    simp only [Array.length_toList, hf2, htl]
    by_cases z1 : q < i * n
    · rw [if_neg (by omega), if_neg (by omega), if_pos z1]
    · by_cases z2 : q < i * n + ys.length * n
      · rw [if_pos (by omega), if_neg z1, if_pos z2, Array.getElem?_toList, Array.getElem?_extract, if_pos (by omega)]
        congr 1; omega
      · rw [if_neg (by omega), if_pos (by omega), if_neg z1, if_neg z2, Array.getElem?_toList, Array.getElem?_extract, if_pos (by omega)]
        congr 1; omega
  · rw [show decide ((xs.length : Int) + (ys.length : Int) > (cap : Int)) = true by simp; omega]
    refine wp_seq (wp_region_lit (l := [o9_0, o9_1, o9_2, o9_3, o9_4, o9_5, o9_6, o9_7, o9_8, o9_9]) ?_)
    refine list_val h9_0 (w' := w) (v := .slice (some ⟨k, off, none⟩) (xs.length) (cap)) (fun _ => by rw [x_move]; simp [ev_ne, ev_eq, put_sz, hsz, e0, e1, e2, e7, e8]) ?_
    refine list_val h9_1 (w' := w) (v := .int .i64 (i : Int)) (fun _ => by rw [x_move]; simp [ev_ne, ev_eq, put_sz, hsz, e0, e1, e2, e7, e8]) ?_
    refine list_val h9_2 (w' := w) (v := .slice (some ⟨k, off, none⟩) (i) (cap)) (fun _ => by rw [x_sliceHi (k := k) (off := off) (len := xs.length) (cap := cap) (i := (i : Int)) hT hn0 (by simp [ev_ne, ev_eq, put_sz, hsz, e0, e1, e2, e7, e8]) (by simp [ev_ne, ev_eq, put_sz, hsz, e0, e1, e2, e7, e8]) (by omega) (by omega)]; rw [show ((i : Int)).toNat = i by omega]) ?_
    refine list_val h9_3 (w' := w) (v := .int .i64 (xs.length : Int)) (fun _ => by rw [x_move]; simp [ev_ne, ev_eq, put_sz, hsz, e0, e1, e2, e7, e8]) ?_
    refine list_val h9_4 (w' := w) (v := .int .i64 (ys.length : Int)) (fun _ => by rw [x_move]; simp [ev_ne, ev_eq, put_sz, hsz, e0, e1, e2, e7, e8]) ?_
    refine list_val h9_5 (w' := w) (v := .int .i64 ((xs.length : Int) + (ys.length : Int))) (fun _ => x_add (by simp [ev_ne, ev_eq, put_sz, hsz, e0, e1, e2, e7, e8]) (by simp [ev_ne, ev_eq, put_sz, hsz, e0, e1, e2, e7, e8]) (by constructor <;> omega)) ?_
    refine list_val h9_6 (w' := w) (v := .int .i64 (i : Int)) (fun _ => by rw [x_move]; simp [ev_ne, ev_eq, put_sz, hsz, e0, e1, e2, e7, e8]) ?_
    refine list_val h9_7 (w' := w) (v := .int .i64 ((xs.length + ys.length - i : Nat) : Int)) (fun _ => by rw [x_sub (p := (xs.length : Int) + (ys.length : Int)) (q := (i : Int)) (by simp [ev_ne, ev_eq, put_sz, hsz, e0, e1, e2, e7, e8]) (by simp [ev_ne, ev_eq, put_sz, hsz, e0, e1, e2, e7, e8]) (by constructor <;> omega), show (xs.length : Int) + (ys.length : Int) - (i : Int) = ((xs.length + ys.length - i : Nat) : Int) by omega]) ?_
    generalize hA : (((((((b.put (some 32) (.slice (some ⟨k, off, none⟩) (xs.length) (cap))).put (some 33) (.int .i64 (i : Int))).put (some 34) (.slice (some ⟨k, off, none⟩) (i) (cap))).put (some 35) (.int .i64 (xs.length : Int))).put (some 36) (.int .i64 (ys.length : Int))).put (some 37) (.int .i64 ((xs.length : Int) + (ys.length : Int)))).put (some 38) (.int .i64 (i : Int))).put (some 39) (.int .i64 ((xs.length + ys.length - i : Nat) : Int)) = b2
    have e0' : b2.eval (.tmp 0) = .slice (some ⟨k, off, none⟩) (xs.length) (cap) := by subst hA; simp [ev_ne, ev_eq, put_sz, hsz, e0, e1, e2, e7, e8]
    have e1' : b2.eval (.tmp 1) = .int .i64 (i : Int) := by subst hA; simp [ev_ne, ev_eq, put_sz, hsz, e0, e1, e2, e7, e8]
    have e2' : b2.eval (.tmp 2) = .slice (some ⟨kv, ov, none⟩) (ys.length) (cv) := by subst hA; simp [ev_ne, ev_eq, put_sz, hsz, e0, e1, e2, e7, e8]
    have e7' : b2.eval (.tmp 7) = .int .i64 (ys.length : Int) := by subst hA; simp [ev_ne, ev_eq, put_sz, hsz, e0, e1, e2, e7, e8]
    have e8' : b2.eval (.tmp 8) = .int .i64 (xs.length : Int) := by subst hA; simp [ev_ne, ev_eq, put_sz, hsz, e0, e1, e2, e7, e8]
    have n34' : b2.eval (.tmp 34) = .slice (some ⟨k, off, none⟩) (i) (cap) := by subst hA; simp [ev_ne, ev_eq, put_sz, hsz, e0, e1, e2, e7, e8]
    have n39' : b2.eval (.tmp 39) = .int .i64 ((xs.length + ys.length - i : Nat) : Int) := by subst hA; simp [ev_ne, ev_eq, put_sz, hsz, e0, e1, e2, e7, e8]
    have hsz' : b2.tmps.size = 95 := by subst hA; simp [put_sz, hsz, e0, e1, e2, e7, e8]
    have hdef' : b2.defers = [] := by subst hA; simpa [put_defers'] using hdef
    clear hA hsz hdef e0 e1 e2 e7 e8
    have e0 := e0'
    have e1 := e1'
    have e2 := e2'
    have e7 := e7'
    have e8 := e8'
    have n34 := n34'
    have n39 := n39'
    have hsz := hsz'
    have hdef := hdef'
    clear hsz' hdef' e0' e1' e2' e7' e8' n34' n39'
    have hbd : w.drew.heap[k]? = some (.cells c T0 (0, 0)) := hb
    have hneed : i + (xs.length + ys.length - i) = xs.length + ys.length := by omega
    have hby2 : (xs.length + ys.length) * ti.bytes ≤ 140737488355328 := Nat.le_trans (Nat.mul_le_mul hroom hby) (by decide)
    obtain ⟨gc, hgc, happ⟩ := x_appendMake (P := P) (a := b2) (w := w) (T := T) (I := I) (e := e) (x := .tmp 34) (y := .tmp 39) (m := xs.length + ys.length - i) (sLen := i) (sCap := cap) (base := some ⟨k, off, none⟩) (z := z) (ti := ti) (olds := c.extract off (off + i * n)) n34 n39 hT hI hi hz (by omega) (by
      rw [hsize]
      simp only [Builtin.firstCells]
      exact run_cells (P := P) hbd (by omega)) (by omega) (by omega) (by unfold maxLen; omega) (by rw [hneed]; exact hby2)
    rw [hneed] at hgc happ
    generalize hC : c.extract off (off + i * n) ++ Builtin.zeroCells z.cells (xs.length + ys.length - i) ++ Builtin.zeroCells z.cells (gc - (xs.length + ys.length)) = C0 at happ
    have hC0 : C0.size = gc * n := by
      rw [← hC]
      simp only [Array.size_append, size_zeroCells, hzn, Array.size_extract]
      have h1 : i * n + ((xs.length + ys.length - i) * n + (gc - (xs.length + ys.length)) * n) = gc * n := by
        rw [← Nat.add_mul, ← Nat.add_mul]; congr 1; omega
      omega
    have hCl : ∀ q, q < i * n → C0[q]? = c[off + q]? := fun q hq => by
      rw [← hC, Array.append_assoc, Array.getElem?_append_left (by simp; omega), Array.getElem?_extract, if_pos (by omega)]
    clear hC
    have hK1 : (w.drew.alloc (.cells C0 e)).heap[w.heap.size]? = some (.cells C0 e (0, 0)) := heap_alloc w.drew _
    have hold : ∀ (k' : Nat) (b' : Obj), w.heap[k']? = some b' → k' ≠ w.heap.size ∧ (w.drew.alloc (.cells C0 e)).heap[k']? = some b' := fun k' b' h => ⟨by have := arr_lt h; omega, (Keep.alloc (o' := g.ow k') (g := g) (w := w.drew) (o := .cells C0 e) (t := .free) k' b' rfl h).2⟩
    generalize hW : w.drew.alloc (.cells C0 e) = w1 at happ hK1 hold
    have hw1s : w.heap.size ≤ w1.heap.size := by rw [← hW]; simp
    have hos1 : SameOs w w1 := by rw [← hW]; exact ⟨rfl, rfl⟩
    generalize hKK : w.heap.size = K at happ hK1 hold hw1s
    refine list_val h9_8 (w' := w1) (v := .slice (some ⟨K, 0, none⟩) (xs.length + ys.length) (gc)) (fun ty => happ o9_8 ty) ?_
    refine list_val h9_9 (w' := w1) (v := .slice (some ⟨K, 0, none⟩) (xs.length + ys.length) (gc)) (fun _ => by rw [x_assign]; simp [ev_ne, ev_eq, put_sz, hsz, e0, e1, e2, e7, e8]) ?_
    generalize hA : (b2.put (some 40) (.slice (some ⟨K, 0, none⟩) (xs.length + ys.length) (gc))).put (some 9) (.slice (some ⟨K, 0, none⟩) (xs.length + ys.length) (gc)) = b3
    have e0' : b3.eval (.tmp 0) = .slice (some ⟨k, off, none⟩) (xs.length) (cap) := by subst hA; simp [ev_ne, ev_eq, put_sz, hsz, e0, e1, e2, e7, e8]
    have e1' : b3.eval (.tmp 1) = .int .i64 (i : Int) := by subst hA; simp [ev_ne, ev_eq, put_sz, hsz, e0, e1, e2, e7, e8]
    have e2' : b3.eval (.tmp 2) = .slice (some ⟨kv, ov, none⟩) (ys.length) (cv) := by subst hA; simp [ev_ne, ev_eq, put_sz, hsz, e0, e1, e2, e7, e8]
    have e7' : b3.eval (.tmp 7) = .int .i64 (ys.length : Int) := by subst hA; simp [ev_ne, ev_eq, put_sz, hsz, e0, e1, e2, e7, e8]
    have e8' : b3.eval (.tmp 8) = .int .i64 (xs.length : Int) := by subst hA; simp [ev_ne, ev_eq, put_sz, hsz, e0, e1, e2, e7, e8]
    have e9' : b3.eval (.tmp 9) = .slice (some ⟨K, 0, none⟩) (xs.length + ys.length) (gc) := by subst hA; simp [ev_ne, ev_eq, put_sz, hsz, e0, e1, e2, e7, e8]
    have hsz' : b3.tmps.size = 95 := by subst hA; simp [put_sz, hsz, e0, e1, e2, e7, e8]
    have hdef' : b3.defers = [] := by subst hA; simpa [put_defers'] using hdef
    clear hA hsz hdef e0 e1 e2 e7 e8 n34 n39 happ
    have e0 := e0'
    have e1 := e1'
    have e2 := e2'
    have e7 := e7'
    have e8 := e8'
    have e9 := e9'
    have hsz := hsz'
    have hdef := hdef'
    clear hsz' hdef' e0' e1' e2' e7' e8' e9'
    refine wp_seq (wp_region_lit (l := [o10_0, o10_1, o10_2, o10_3, o10_4]) ?_)
    refine list_val h10_0 (w' := w1) (v := .slice (some ⟨K, 0, none⟩) (xs.length + ys.length) (gc)) (fun _ => by rw [x_move]; simp [ev_ne, ev_eq, put_sz, hsz, e0, e1, e2, e7, e8, e9]) ?_
    refine list_val h10_1 (w' := w1) (v := .int .i64 (i : Int)) (fun _ => by rw [x_move]; simp [ev_ne, ev_eq, put_sz, hsz, e0, e1, e2, e7, e8, e9]) ?_
    refine list_val h10_2 (w' := w1) (v := .slice (some ⟨K, 0 + i * n, none⟩) (xs.length + ys.length - i) (gc - i)) (fun _ => by rw [x_sliceLo (k := K) (off := 0) (len := xs.length + ys.length) (cap := gc) (i := (i : Int)) hT hn0 (by simp [ev_ne, ev_eq, put_sz, hsz, e0, e1, e2, e7, e8, e9]) (by simp [ev_ne, ev_eq, put_sz, hsz, e0, e1, e2, e7, e8, e9]) (by omega) (by omega), hce]; rw [show ((i : Int)).toNat = i by omega, if_neg (by omega)]) ?_
    refine list_val h10_3 (w' := w1) (v := .slice (some ⟨kv, ov, none⟩) (ys.length) (cv)) (fun _ => by rw [x_move]; simp [ev_ne, ev_eq, put_sz, hsz, e0, e1, e2, e7, e8, e9]) ?_
    have hb2' : w1.heap[kv]? = some (.cells av Tv fz) := (hold kv _ hb2).2
    have hKkv : kv ≠ K := (hold kv _ hb2).1
    have hKk : k ≠ K := (hold k _ hb).1
    have hgcn : (xs.length + ys.length) * n ≤ gc * n := Nat.mul_le_mul_right _ hgc
    rw [Nat.add_mul] at hgcn
    obtain ⟨w2, p1, p2, p3, c2, p4, p5, p6⟩ := run_storeCells' (P := P) K (0 + i * n) e (av.extract ov (ov + ys.length * n)).toList 0 C0 w1 hK1 (by simp only [Array.length_toList, hf2]; omega) fly.one
    have osw2 := storeCells_os (P := P) K (0 + i * n) e (av.extract ov (ov + ys.length * n)).toList 0 C0 w1 w2 hK1 (by simp only [Array.length_toList, hf2]; omega) fly.one p1
    refine list_val h10_4 (w' := w2) (v := goInt ys.length) (fun _ => ?_) ?_
    · refine x_copy' (m := ys.length) (dl := xs.length + ys.length - i) (dc := gc - i) (off := 0 + i * n) (k := K) (cs := av.extract ov (ov + ys.length * n)) hT hce (by omega) (by simp [ev_ne, ev_eq, put_sz, hsz]) (by simp [ev_ne, ev_eq, put_sz, hsz, Builtin.lenOf]) (Nat.min_eq_left (by omega)) ?_ p1
      simp only [ev_eq, put_sz, hsz, Nat.reduceLT, Builtin.firstCells]
      exact run_cells (P := P) hb2' hav
    generalize hA : ((((b3.put (some 41) (.slice (some ⟨K, 0, none⟩) (xs.length + ys.length) (gc))).put (some 42) (.int .i64 (i : Int))).put (some 43) (.slice (some ⟨K, 0 + i * n, none⟩) (xs.length + ys.length - i) (gc - i))).put (some 44) (.slice (some ⟨kv, ov, none⟩) (ys.length) (cv))).put (some 45) (goInt ys.length) = b4
    have e0' : b4.eval (.tmp 0) = .slice (some ⟨k, off, none⟩) (xs.length) (cap) := by subst hA; simp [ev_ne, ev_eq, put_sz, hsz, e0, e1, e2, e7, e8, e9]
    have e1' : b4.eval (.tmp 1) = .int .i64 (i : Int) := by subst hA; simp [ev_ne, ev_eq, put_sz, hsz, e0, e1, e2, e7, e8, e9]
    have e2' : b4.eval (.tmp 2) = .slice (some ⟨kv, ov, none⟩) (ys.length) (cv) := by subst hA; simp [ev_ne, ev_eq, put_sz, hsz, e0, e1, e2, e7, e8, e9]
    have e7' : b4.eval (.tmp 7) = .int .i64 (ys.length : Int) := by subst hA; simp [ev_ne, ev_eq, put_sz, hsz, e0, e1, e2, e7, e8, e9]
    have e8' : b4.eval (.tmp 8) = .int .i64 (xs.length : Int) := by subst hA; simp [ev_ne, ev_eq, put_sz, hsz, e0, e1, e2, e7, e8, e9]
    have e9' : b4.eval (.tmp 9) = .slice (some ⟨K, 0, none⟩) (xs.length + ys.length) (gc) := by subst hA; simp [ev_ne, ev_eq, put_sz, hsz, e0, e1, e2, e7, e8, e9]
    have hsz' : b4.tmps.size = 95 := by subst hA; simp [put_sz, hsz, e0, e1, e2, e7, e8, e9]
    have hdef' : b4.defers = [] := by subst hA; simpa [put_defers'] using hdef
    clear hA hsz hdef e0 e1 e2 e7 e8 e9
    have e0 := e0'
    have e1 := e1'
    have e2 := e2'
    have e7 := e7'
    have e8 := e8'
    have e9 := e9'
    have hsz := hsz'
    have hdef := hdef'
    clear hsz' hdef' e0' e1' e2' e7' e8' e9'
    refine wp_seq (wp_region_still_tail (l := [o11_0, o11_1, o11_2, o11_3, o11_4, o11_5, o11_6, o11_7, o11_8]) 8 hm hB11 ?_)
    show wpStill P _ w2.drew (fun a' => wpList P _ _ [o11_8] a' w2.drew) [o11_0, o11_1, o11_2, o11_3, o11_4, o11_5, o11_6, o11_7] b4
    refine still_val h11_0 (v := .slice (some ⟨K, 0, none⟩) (xs.length + ys.length) (gc)) (fun _ => by rw [x_move]; simp [ev_ne, ev_eq, put_sz, hsz, e0, e1, e2, e7, e8, e9]) ?_
    refine still_val h11_1 (v := .int .i64 (i : Int)) (fun _ => by rw [x_move]; simp [ev_ne, ev_eq, put_sz, hsz, e0, e1, e2, e7, e8, e9]) ?_
    refine still_val h11_2 (v := .int .i64 (ys.length : Int)) (fun _ => by rw [x_move]; simp [ev_ne, ev_eq, put_sz, hsz, e0, e1, e2, e7, e8, e9]) ?_
    refine still_val h11_3 (v := .int .i64 ((i : Int) + (ys.length : Int))) (fun _ => x_add (by simp [ev_ne, ev_eq, put_sz, hsz, e0, e1, e2, e7, e8, e9]) (by simp [ev_ne, ev_eq, put_sz, hsz, e0, e1, e2, e7, e8, e9]) (by constructor <;> omega)) ?_
    refine still_val h11_4 (v := .slice (some ⟨K, 0 + (i + ys.length) * n, none⟩) (xs.length + ys.length - (i + ys.length)) (gc - (i + ys.length))) (fun _ => by rw [x_sliceLo (k := K) (off := 0) (len := xs.length + ys.length) (cap := gc) (i := (i : Int) + (ys.length : Int)) hT hn0 (by simp [ev_ne, ev_eq, put_sz, hsz, e0, e1, e2, e7, e8, e9]) (by simp [ev_ne, ev_eq, put_sz, hsz, e0, e1, e2, e7, e8, e9]) (by omega) (by omega), hce]; rw [show ((i : Int) + (ys.length : Int)).toNat = i + ys.length by omega, if_neg (by omega)]) ?_
    refine still_val h11_5 (v := .slice (some ⟨k, off, none⟩) (xs.length) (cap)) (fun _ => by rw [x_move]; simp [ev_ne, ev_eq, put_sz, hsz, e0, e1, e2, e7, e8, e9]) ?_
    refine still_val h11_6 (v := .int .i64 (i : Int)) (fun _ => by rw [x_move]; simp [ev_ne, ev_eq, put_sz, hsz, e0, e1, e2, e7, e8, e9]) ?_
    refine still_val h11_7 (v := .slice (some ⟨k, off + i * n, none⟩) (xs.length - i) (cap - i)) (fun _ => by rw [x_sliceLo (k := k) (off := off) (len := xs.length) (cap := cap) (i := (i : Int)) hT hn0 (by simp [ev_ne, ev_eq, put_sz, hsz, e0, e1, e2, e7, e8, e9]) (by simp [ev_ne, ev_eq, put_sz, hsz, e0, e1, e2, e7, e8, e9]) (by omega) (by omega), hce]; rw [show ((i : Int)).toNat = i by omega, if_neg (by omega)]) ?_
    generalize hA : (((((((b4.put (some 46) (.slice (some ⟨K, 0, none⟩) (xs.length + ys.length) (gc))).put (some 47) (.int .i64 (i : Int))).put (some 48) (.int .i64 (ys.length : Int))).put (some 49) (.int .i64 ((i : Int) + (ys.length : Int)))).put (some 50) (.slice (some ⟨K, 0 + (i + ys.length) * n, none⟩) (xs.length + ys.length - (i + ys.length)) (gc - (i + ys.length)))).put (some 51) (.slice (some ⟨k, off, none⟩) (xs.length) (cap))).put (some 52) (.int .i64 (i : Int))).put (some 53) (.slice (some ⟨k, off + i * n, none⟩) (xs.length - i) (cap - i)) = b5
    have e0' : b5.eval (.tmp 0) = .slice (some ⟨k, off, none⟩) (xs.length) (cap) := by subst hA; simp [ev_ne, ev_eq, put_sz, hsz, e0, e1, e2, e7, e8, e9]
    have e1' : b5.eval (.tmp 1) = .int .i64 (i : Int) := by subst hA; simp [ev_ne, ev_eq, put_sz, hsz, e0, e1, e2, e7, e8, e9]
    have e2' : b5.eval (.tmp 2) = .slice (some ⟨kv, ov, none⟩) (ys.length) (cv) := by subst hA; simp [ev_ne, ev_eq, put_sz, hsz, e0, e1, e2, e7, e8, e9]
    have e7' : b5.eval (.tmp 7) = .int .i64 (ys.length : Int) := by subst hA; simp [ev_ne, ev_eq, put_sz, hsz, e0, e1, e2, e7, e8, e9]
    have e8' : b5.eval (.tmp 8) = .int .i64 (xs.length : Int) := by subst hA; simp [ev_ne, ev_eq, put_sz, hsz, e0, e1, e2, e7, e8, e9]
    have e9' : b5.eval (.tmp 9) = .slice (some ⟨K, 0, none⟩) (xs.length + ys.length) (gc) := by subst hA; simp [ev_ne, ev_eq, put_sz, hsz, e0, e1, e2, e7, e8, e9]
    have n50' : b5.eval (.tmp 50) = .slice (some ⟨K, 0 + (i + ys.length) * n, none⟩) (xs.length + ys.length - (i + ys.length)) (gc - (i + ys.length)) := by subst hA; simp [ev_ne, ev_eq, put_sz, hsz, e0, e1, e2, e7, e8, e9]
    have n53' : b5.eval (.tmp 53) = .slice (some ⟨k, off + i * n, none⟩) (xs.length - i) (cap - i) := by subst hA; simp [ev_ne, ev_eq, put_sz, hsz, e0, e1, e2, e7, e8, e9]
    have hsz' : b5.tmps.size = 95 := by subst hA; simp [put_sz, hsz, e0, e1, e2, e7, e8, e9]
    have hdef' : b5.defers = [] := by subst hA; simpa [put_defers'] using hdef
    clear hA hsz hdef e0 e1 e2 e7 e8 e9
    have e0 := e0'
    have e1 := e1'
    have e2 := e2'
    have e7 := e7'
    have e8 := e8'
    have e9 := e9'
    have n50 := n50'
    have n53 := n53'
    have hsz := hsz'
    have hdef := hdef'
    clear hsz' hdef' e0' e1' e2' e7' e8' e9' n50' n53'
    have hbd2 : w2.drew.heap[k]? = some (.cells c T0 (0, 0)) := by
      show w2.heap[k]? = _
      rw [p3 k hKk]; exact (hold k _ hb).2
    have him : (i + ys.length) * n = i * n + ys.length * n := Nat.add_mul _ _ _
    have htl : (c.extract (off + i * n) (off + i * n + (xs.length - i) * n)).size = (xs.length - i) * n := by simp; omega
    have hone1 : ∀ v ∈ (c.extract (off + i * n) (off + i * n + (xs.length - i) * n)).toList, v.oneCell' = true := by
      have := flx.one
      intro v hv
      refine this v ?_
      simp only [Array.mem_toList_iff, Array.mem_extract_iff_getElem] at hv ⊢
      obtain ⟨q, hq1, rfl⟩ := hv
      exact ⟨i * n + q, by omega, by congr 1; omega⟩
    obtain ⟨w3, q1, q2, q3, c3, q4, q5, q6⟩ := run_storeCells' (P := P) K (0 + (i + ys.length) * n) e (c.extract (off + i * n) (off + i * n + (xs.length - i) * n)).toList 0 c2 w2.drew p4 (by simp only [Array.length_toList, htl]; omega) hone1
    have osw3 := storeCells_os (P := P) K (0 + (i + ys.length) * n) e (c.extract (off + i * n) (off + i * n + (xs.length - i) * n)).toList 0 c2 w2.drew w3 p4 (by simp only [Array.length_toList, htl]; omega) hone1 q1
    refine list_val h11_8 (w' := w3) (v := goInt (xs.length - i : Nat)) (fun _ => ?_) ?_
    · refine x_copy' (m := xs.length - i) (cs := c.extract (off + i * n) (off + i * n + (xs.length - i) * n)) hT hce (by omega) n50 (by rw [n53]; rfl) (by rw [show xs.length + ys.length - (i + ys.length) = xs.length - i by omega]; exact Nat.min_self _) ?_ q1
      rw [n53]
      simp only [Builtin.firstCells]
      exact run_cells (P := P) hbd2 (by omega)
    generalize hA : b5.put (some 54) (goInt (xs.length - i : Nat)) = b6
    have e0' : b6.eval (.tmp 0) = .slice (some ⟨k, off, none⟩) (xs.length) (cap) := by subst hA; simp [ev_ne, ev_eq, put_sz, hsz, e0, e1, e2, e7, e8, e9]
    have e1' : b6.eval (.tmp 1) = .int .i64 (i : Int) := by subst hA; simp [ev_ne, ev_eq, put_sz, hsz, e0, e1, e2, e7, e8, e9]
    have e2' : b6.eval (.tmp 2) = .slice (some ⟨kv, ov, none⟩) (ys.length) (cv) := by subst hA; simp [ev_ne, ev_eq, put_sz, hsz, e0, e1, e2, e7, e8, e9]
    have e7' : b6.eval (.tmp 7) = .int .i64 (ys.length : Int) := by subst hA; simp [ev_ne, ev_eq, put_sz, hsz, e0, e1, e2, e7, e8, e9]
    have e8' : b6.eval (.tmp 8) = .int .i64 (xs.length : Int) := by subst hA; simp [ev_ne, ev_eq, put_sz, hsz, e0, e1, e2, e7, e8, e9]
    have e9' : b6.eval (.tmp 9) = .slice (some ⟨K, 0, none⟩) (xs.length + ys.length) (gc) := by subst hA; simp [ev_ne, ev_eq, put_sz, hsz, e0, e1, e2, e7, e8, e9]
    have hsz' : b6.tmps.size = 95 := by subst hA; simp [put_sz, hsz, e0, e1, e2, e7, e8, e9]
    have hdef' : b6.defers = [] := by subst hA; simpa [put_defers'] using hdef
    clear hA hsz hdef e0 e1 e2 e7 e8 e9 n50 n53
    have e0 := e0'
    have e1 := e1'
    have e2 := e2'
    have e7 := e7'
    have e8 := e8'
    have e9 := e9'
    have hsz := hsz'
    have hdef := hdef'
    clear hsz' hdef' e0' e1' e2' e7' e8' e9'
    refine wp_seq (wp_region_lit (l := [o12_0, o12_1]) ?_)
    refine list_val h12_0 (w' := w3) (v := .slice (some ⟨K, 0, none⟩) (xs.length + ys.length) (gc)) (fun _ => by rw [x_move]; simp [ev_ne, ev_eq, put_sz, hsz, e0, e1, e2, e7, e8, e9]) ?_
    refine list_val h12_1 (w' := w3) (v := .slice (some ⟨K, 0, none⟩) (xs.length + ys.length) (gc)) (fun _ => by rw [x_assign]; simp [ev_ne, ev_eq, put_sz, hsz, e0, e1, e2, e7, e8, e9]) ?_
    refine wp_ret ?_
    have hk3 : ∀ o, Keep o g w (g.upd K (.lst (.slot 6))) w3 := fun o k' b' h1 h2 => by
      obtain ⟨hkk, h3⟩ := hold k' b' h2
      refine ⟨by rw [Gh.upd_other _ _ hkk]; exact h1, ?_⟩
      rw [q3 k' hkk]
      show w2.heap[k']? = _
      rw [p3 k' hkk]; exact h3
    refine fin _ w3 (g.upd K (.lst (.slot 6))) (.slice (some ⟨K, 0, none⟩) (xs.length + ys.length) gc) (by simp [put_sz, hsz]) (by simpa [put_defers'] using hdef) (by simp [ev_eq, put_sz, hsz]) ?_ (fun o _ => hk3 o) rfl (by rw [q2]; show _ ≤ w2.heap.size; rw [p2, hKK]; exact hw1s) (hos1.trans (osw2.trans osw3))
    rw [← hzl]
    refine ROwn.win flz q4 (by simp) (by omega) (by rw [q5, p5, hC0]; omega) (fun q hq => ?_) (hk3 _) (fun _ _ h => h)
    rw [hflat q hq]
    rw [hzl, Nat.add_mul] at hq
    rw [q6, p6]
    simp only [Array.length_toList, hf2, htl]
    by_cases z1 : q < i * n
    · rw [if_neg (by omega), if_neg (by omega), if_pos z1, hCl _ (by omega)]
      congr 1; omega
    · by_cases z2 : q < i * n + ys.length * n
      · rw [if_neg (by omega), if_pos (by omega), if_neg z1, if_pos z2, Array.getElem?_toList, Array.getElem?_extract, if_pos (by omega)]
        congr 1; omega
      · rw [if_pos (by omega), if_neg z1, if_neg z2, Array.getElem?_toList, Array.getElem?_extract, if_pos (by omega)]
        congr 1; omega
end Go.Sh
set_option linter.unusedVariables false
set_option linter.unusedSimpArgs false
namespace Go.Sh

theorem SW.insM {P : Program} {α : Type} {enc : α → D} {T I B e : TypeId} {fo : Nat} {ik : IntKind} {ti : TypeInfo} {z : Value} {zd : D} {n : Nat} {xs ys : List α} {i : Int} {H : List SObj} {Q : Exit → St → Prop} {Z : Code} {i8 i9 i10 i11 i12 i13 i14 i15 i16 i17 : Nat}
    {o8_0 o8_1 o8_2 o8_3 o8_4 o8_5 o9_0 o9_1 o9_2 o9_3 o9_4 o9_5 o9_6 o9_7 o9_8 o9_9 o10_0 o10_1 o10_2 o10_3 o10_4 o11_0 o11_1 o11_2 o11_3 o11_4 o11_5 o11_6 o11_7 o11_8 o12_0 o12_1 o13_0 o13_1 o13_2 o13_3 o13_4 o13_5 o14_0 o14_1 o14_2 o14_3 o14_4 o14_5 o14_6 o14_7 o15_0 o15_1 o15_2 o15_3 o15_4 o15_5 o15_6 o15_7 o15_8 o16_0 o16_1 o16_2 o16_3 o16_4 o17_0 o17_1 : Oper}
    (hc : (decide (0 ≤ i) && decide (i < xs.length) && decide (0 < ys.length) && decide (xs.length + ys.length ≤ room)) = true)
    (hT : P.underlying T = some (.slice e)) (hI : P.underlying I = some (.int ik)) (hi : P.info? e = some ti) (hz : ti.zero = some z) (hzd : constD z = some zd) (hzn : z.cells.size = n) (hsize : ti.size = n) (hn : 0 < n) (hby : ti.bytes ≤ 65536)
    (hov : ∀ (args : Array Value) (w : World), (callFunc fo args).run P w = ((Extern.SlicesOverlaps.overlaps #[T, T] #[B] args).run P w).andThen fun v w' => .ok (.value v) w')
    (hm : P.follows .mixedOrders = true) (hB11 : Region.lexTailB .any #[o11_0, o11_1, o11_2, o11_3, o11_4, o11_5, o11_6, o11_7, o11_8] 8 = true) (hB15 : Region.lexTailB .any #[o15_0, o15_1, o15_2, o15_3, o15_4, o15_5, o15_6, o15_7, o15_8] 8 = true)
    (h8_0 : isOp o8_0 (some 26) (.move (.tmp 8)))
    (h8_1 : isOp o8_1 (some 27) (.move (.tmp 7)))
    (h8_2 : isOp o8_2 (some 28) (.binOp .add I (.tmp 26) (.tmp 27) I))
    (h8_3 : isOp o8_3 (some 29) (.move (.tmp 0)))
    (h8_4 : isOp o8_4 (some 30) (.call ⟨.builtin .cap, #[.tmp 29], #[T]⟩))
    (h8_5 : isOp o8_5 (some 31) (.binOp .gtr I (.tmp 28) (.tmp 30) I))
    (h9_0 : isOp o9_0 (some 32) (.move (.tmp 0)))
    (h9_1 : isOp o9_1 (some 33) (.move (.tmp 1)))
    (h9_2 : isOp o9_2 (some 34) (.slice T (.tmp 32) none (some (.tmp 33)) none))
    (h9_3 : isOp o9_3 (some 35) (.move (.tmp 8)))
    (h9_4 : isOp o9_4 (some 36) (.move (.tmp 7)))
    (h9_5 : isOp o9_5 (some 37) (.binOp .add I (.tmp 35) (.tmp 36) I))
    (h9_6 : isOp o9_6 (some 38) (.move (.tmp 1)))
    (h9_7 : isOp o9_7 (some 39) (.binOp .sub I (.tmp 37) (.tmp 38) I))
    (h9_8 : isOp o9_8 (some 40) (.call ⟨.builtin .append, #[.tmp 34, .tmp 39], #[T, I]⟩))
    (h9_9 : isOp o9_9 (some 9) (.assign (.tmp 40)))
    (h10_0 : isOp o10_0 (some 41) (.move (.tmp 9)))
    (h10_1 : isOp o10_1 (some 42) (.move (.tmp 1)))
    (h10_2 : isOp o10_2 (some 43) (.slice T (.tmp 41) (some (.tmp 42)) none none))
    (h10_3 : isOp o10_3 (some 44) (.move (.tmp 2)))
    (h10_4 : isOp o10_4 (some 45) (.call ⟨.builtin .copy, #[.tmp 43, .tmp 44], #[T, T]⟩))
    (h11_0 : isOp o11_0 (some 46) (.move (.tmp 9)))
    (h11_1 : isOp o11_1 (some 47) (.move (.tmp 1)))
    (h11_2 : isOp o11_2 (some 48) (.move (.tmp 7)))
    (h11_3 : isOp o11_3 (some 49) (.binOp .add I (.tmp 47) (.tmp 48) I))
    (h11_4 : isOp o11_4 (some 50) (.slice T (.tmp 46) (some (.tmp 49)) none none))
    (h11_5 : isOp o11_5 (some 51) (.move (.tmp 0)))
    (h11_6 : isOp o11_6 (some 52) (.move (.tmp 1)))
    (h11_7 : isOp o11_7 (some 53) (.slice T (.tmp 51) (some (.tmp 52)) none none))
    (h11_8 : isOp o11_8 (some 54) (.call ⟨.builtin .copy, #[.tmp 50, .tmp 53], #[T, T]⟩))
    (h12_0 : isOp o12_0 (some 55) (.move (.tmp 9)))
    (h12_1 : isOp o12_1 (some 6) (.assign (.tmp 55)))
    (h13_0 : isOp o13_0 (some 56) (.move (.tmp 0)))
    (h13_1 : isOp o13_1 (some 57) (.move (.tmp 8)))
    (h13_2 : isOp o13_2 (some 58) (.move (.tmp 7)))
    (h13_3 : isOp o13_3 (some 59) (.binOp .add I (.tmp 57) (.tmp 58) I))
    (h13_4 : isOp o13_4 (some 60) (.slice T (.tmp 56) none (some (.tmp 59)) none))
    (h13_5 : isOp o13_5 (some 0) (.assign (.tmp 60)))
    (h14_0 : isOp o14_0 (some 61) (.move (.tmp 2)))
    (h14_1 : isOp o14_1 (some 62) (.move (.tmp 0)))
    (h14_2 : isOp o14_2 (some 63) (.move (.tmp 1)))
    (h14_3 : isOp o14_3 (some 64) (.move (.tmp 7)))
    (h14_4 : isOp o14_4 (some 65) (.binOp .add I (.tmp 63) (.tmp 64) I))
    (h14_5 : isOp o14_5 (some 66) (.slice T (.tmp 62) (some (.tmp 65)) none none))
    (h14_6 : isOp o14_6 (some 67) (.call ⟨.value (.func fo), #[.tmp 61, .tmp 66], #[T, T]⟩))
    (h14_7 : isOp o14_7 (some 68) (.unOp .not B (.tmp 67)))
    (h15_0 : isOp o15_0 (some 69) (.move (.tmp 0)))
    (h15_1 : isOp o15_1 (some 70) (.move (.tmp 1)))
    (h15_2 : isOp o15_2 (some 71) (.move (.tmp 7)))
    (h15_3 : isOp o15_3 (some 72) (.binOp .add I (.tmp 70) (.tmp 71) I))
    (h15_4 : isOp o15_4 (some 73) (.slice T (.tmp 69) (some (.tmp 72)) none none))
    (h15_5 : isOp o15_5 (some 74) (.move (.tmp 0)))
    (h15_6 : isOp o15_6 (some 75) (.move (.tmp 1)))
    (h15_7 : isOp o15_7 (some 76) (.slice T (.tmp 74) (some (.tmp 75)) none none))
    (h15_8 : isOp o15_8 (some 77) (.call ⟨.builtin .copy, #[.tmp 73, .tmp 76], #[T, T]⟩))
    (h16_0 : isOp o16_0 (some 78) (.move (.tmp 0)))
    (h16_1 : isOp o16_1 (some 79) (.move (.tmp 1)))
    (h16_2 : isOp o16_2 (some 80) (.slice T (.tmp 78) (some (.tmp 79)) none none))
    (h16_3 : isOp o16_3 (some 81) (.move (.tmp 2)))
    (h16_4 : isOp o16_4 (some 82) (.call ⟨.builtin .copy, #[.tmp 80, .tmp 81], #[T, T]⟩))
    (h17_0 : isOp o17_0 (some 83) (.move (.tmp 0)))
    (h17_1 : isOp o17_1 (some 6) (.assign (.tmp 83)))
    (hq : Q .ret (sp 95 [(6, .own n ((xs.take i.toNat ++ ys ++ xs.drop i.toNat).map enc))] H)) :
    SW P true (.seq (.seq (.region i8 #[o8_0, o8_1, o8_2, o8_3, o8_4, o8_5] false) (.cond (.tmp 31) (.seq (.region i9 #[o9_0, o9_1, o9_2, o9_3, o9_4, o9_5, o9_6, o9_7, o9_8, o9_9] false) (.seq (.region i10 #[o10_0, o10_1, o10_2, o10_3, o10_4] false) (.seq (.region i11 #[o11_0, o11_1, o11_2, o11_3, o11_4, o11_5, o11_6, o11_7, o11_8] true) (.seq (.region i12 #[o12_0, o12_1] false) .ret)))) .skip)) (.seq (.region i13 #[o13_0, o13_1, o13_2, o13_3, o13_4, o13_5] false) (.seq (.seq (.region i14 #[o14_0, o14_1, o14_2, o14_3, o14_4, o14_5, o14_6, o14_7] false) (.cond (.tmp 68) (.seq (.region i15 #[o15_0, o15_1, o15_2, o15_3, o15_4, o15_5, o15_6, o15_7, o15_8] true) (.seq (.region i16 #[o16_0, o16_1, o16_2, o16_3, o16_4] false) (.seq (.region i17 #[o17_0, o17_1] false) .ret))) .skip)) Z))) (sp 95 [(0, .own n (xs.map enc)), (1, vI i), (2, .d (.list n (ys.map enc))), (7, vI ys.length), (8, vI xs.length)] H) Q := by
  have := SW.ins (P := P) (xs := xs.map enc) (ys := ys.map enc) (i := i) (H := H) (Q := Q) (Z := Z) (i8 := i8) (i9 := i9) (i10 := i10) (i11 := i11) (i12 := i12) (i13 := i13) (i14 := i14) (i15 := i15) (i16 := i16) (i17 := i17) hT hI hi hz hzd hzn hsize hn hby hov hm hB11 hB15 h8_0 h8_1 h8_2 h8_3 h8_4 h8_5 h9_0 h9_1 h9_2 h9_3 h9_4 h9_5 h9_6 h9_7 h9_8 h9_9 h10_0 h10_1 h10_2 h10_3 h10_4 h11_0 h11_1 h11_2 h11_3 h11_4 h11_5 h11_6 h11_7 h11_8 h12_0 h12_1 h13_0 h13_1 h13_2 h13_3 h13_4 h13_5 h14_0 h14_1 h14_2 h14_3 h14_4 h14_5 h14_6 h14_7 h15_0 h15_1 h15_2 h15_3 h15_4 h15_5 h15_6 h15_7 h15_8 h16_0 h16_1 h16_2 h16_3 h16_4 h17_0 h17_1 (by simpa only [List.length_map] using hc)
  simp only [List.length_map, List.map_append, List.map_take, List.map_drop] at this hq ⊢
  exact this hq

section
variable {P : Program} {pu : Bool} {st : St} {ops : Array Oper} {k m : Nat} {Q : St → Prop}

/-- s[i:j:m], where only the bounds matter. -/
def sl3At (P : Program) (ops : Array Oper) (k : Nat) (st : St) : Option (Option Tmp × List D × Int × Int × Int) :=
  match opAt ops k st with
  | some o => match o.op with
    | .slice T x (some lo) (some hi) (some mx) => match (match valD st x with | some (.str _) => none | _ => listOf st x), intOf? st lo, intOf? st hi, intOf? st mx with
      | some (_, _, xs), some (_, i), some (_, j), some (_, mm) => if elemW P T != 0 then some (o.dst, xs, i, j, mm) else none
      | _, _, _, _ => none
    | _ => none
  | none => none

theorem BAt.sl3 {α : Type} {enc : α → D} {xs : List α} {d : Option Tmp} {i j mm : Int} (hc : (decide (0 ≤ i) && decide (i ≤ j) && decide (j ≤ mm) && decide (mm ≤ xs.length)) = true) (h : sl3At P ops k st = some (d, xs.map enc, i, j, mm)) : BAt P ops k st d .undef := by
  simp only [Bool.and_eq_true, decide_eq_true_eq] at hc
  obtain ⟨⟨⟨h0, h1⟩, h2⟩, h3⟩ := hc
  unfold sl3At at h
  split at h
  · rename_i o ho
    split at h
    · rename_i T x lo hi mx hop
      split at h
      · rename_i l n xs' ik i' jk j' mk mm' hl hi' hj' hm'
        split at h
        · rename_i hw
          simp only [Option.some.injEq, Prod.mk.injEq] at h
          obtain ⟨rfl, rfl, rfl, rfl, rfl⟩ := h
          obtain ⟨g1, g2⟩ := opAt_inv ho
          refine ⟨o, g1, g2, fun a w g hr => ?_, rfl, rfl⟩
          have hx : listOf st x = some (l, n, xs.map enc) := by
            split at hl
            · cases hl
            · exact hl
          have hL := listOf_sound hr hx
          have ev : ∀ {y : Operand} {kk : IntKind} {q : Int}, intOf? st y = some (kk, q) → a.eval y = .int kk q := fun h => by
            unfold intOf? at h
            split at h
            · rename_i k1 n1 hv1
              cases h
              exact valD_leaf hr hv1 rfl
            · cases h
          have e1 := ev hi'
          have e2 := ev hj'
          have e3 := ev hm'
          obtain ⟨base, len, cap, hv, hlen⟩ : ∃ base len cap, a.eval x = .slice base len cap ∧ xs.length ≤ cap := by
            rcases hL with ⟨hn, b0, cap, hv⟩ | ⟨kb, off, cap, c, T0, fz, us, hv, -, -, hp, -⟩
            · rw [List.map_eq_nil_iff] at hn; subst hn; exact ⟨b0, 0, cap, hv, by simp⟩
            · exact ⟨_, _, cap, hv, by simpa using hp⟩
          unfold elemW at hw
          split at hw
          · rename_i e hu
            have hz : P.cellsOf e ≠ 0 := by simpa using hw
            refine ⟨.slice (if mm'.toNat = i'.toNat + (mm'.toNat - i'.toNat) ∧ mm'.toNat = i'.toNat then base else base.map (·.add (i'.toNat * P.cellsOf e))) (j'.toNat - i'.toNat) (mm'.toNat - i'.toNat), trivial, fun w' _ => ?_⟩
            unfold execOp; rw [hop]
            show (do pure (.value (← Instr.sliceAt T (a.eval x) (some (a.eval lo)) (some (a.eval hi)) (some (a.eval mx)))) : Sem Next).run P w' = _
            have c1 : mm' ≤ (cap : Int) := by omega
            have c2 : 0 ≤ mm' := by omega
            have c3 : 0 ≤ j' := by omega
            have c4 : j' ≤ max mm' 0 := by omega
            have c5 : i' ≤ max j' 0 := by omega
            simp [hv, e1, e2, e3, Instr.sliceAt, Instr.slice, Instr.sliceBounds, Instr.sliceBound, asIntOf, run_underlying hu, c1, c2, c3, c4, c5, h0, sizeOf_ne hz]
            by_cases hq : mm'.toNat = i'.toNat
            · rw [if_pos hq, if_pos ⟨by omega, hq⟩]
            · rw [if_neg hq, if_neg (fun h => hq h.2)]
          · simp at hw
        · cases h
      · cases h
    · cases h
  · cases h

end

/-- A list that may be nil where it is empty: both ways have to tell the same. -/
def nilB {α ρ : Type} [DecidableEq ρ] (xs : List α) (f : Bool → Option ρ) : Option ρ := bif xs.isEmpty then (if f true = f false then f true else none) else f false

theorem nilB_inv {α ρ : Type} [DecidableEq ρ] {xs : List α} {f : Bool → Option ρ} {r : ρ} (h : nilB xs f = some r) (b : Bool) (hb : b = true → xs = []) : f b = some r := by
  unfold nilB at h
  cases hx : xs.isEmpty with
  | true =>
    rw [hx] at h
    simp only [cond_true] at h
    split at h
    · rename_i e; cases b
      · rw [← e]; exact h
      · exact h
    · cases h
  | false =>
    rw [hx] at h
    cases b with
    | false => exact h
    | true => have := hb rfl; subst this; simp at hx

theorem SW.delM {P : Program} {pu : Bool} {st : St} {α : Type} {enc : α → D} {id id2 : Nat} {o1 o2 o3 o4 o5 o6 o7 o8 p1 p2 p3 p4 p5 p6 : Oper} {Y : Code} {T e : TypeId} {ti : TypeInfo} {z : Value} {zd : D} {n : Nat} {xs : List α} {i j : Int} {Q : Exit → St → Prop} {t1 t2 t3 t4 t5 t6 t7 s a1 a2 a3 u1 u2 u3 u4 u5 : Nat} {st2 : St}
    (hij : (decide (0 ≤ i) && decide (i < j) && decide (j ≤ xs.length) && decide (xs.length ≤ room)) = true)
    (hm : P.follows .mixedOrders = true) (hB : Region.lexTailB .any #[o1, o2, o3, o4, o5, o6, o7, o8] 6 = true)
    (h1 : isOp o1 (some t1) (.move (.tmp s))) (h2 : isOp o2 (some t2) (.move (.tmp a1))) (h3 : isOp o3 (some t3) (.slice T (.tmp t1) none (some (.tmp t2)) none)) (h4 : isOp o4 (some t4) (.move (.tmp s))) (h5 : isOp o5 (some t5) (.move (.tmp a2)))
    (h6 : isOp o6 (some t6) (.slice T (.tmp t4) (some (.tmp t5)) none none)) (h7 : isOp o7 (some t7) (.call ⟨.builtin .append, #[.tmp t3, .tmp t6], #[T, T]⟩)) (h8 : isOp o8 (some s) (.assign (.tmp t7)))
    (k1 : isOp p1 (some u1) (.move (.tmp s))) (k2 : isOp p2 (some u2) (.move (.tmp s))) (k3 : isOp p3 (some u3) (.call ⟨.builtin .len, #[.tmp u2], #[T]⟩)) (k4 : isOp p4 (some u4) (.move (.tmp a3)))
    (k5 : isOp p5 (some u5) (.slice T (.tmp u1) (some (.tmp u3)) (some (.tmp u4)) none)) (k6 : isOp p6 none (.call ⟨.builtin .clear, #[.tmp u5], #[T]⟩))
    (hN : (decide (t1 < st.tmps.length) && decide (t2 < st.tmps.length) && decide (t3 < st.tmps.length) && decide (t4 < st.tmps.length) && decide (t5 < st.tmps.length) && decide (t6 < st.tmps.length) && decide (t7 < st.tmps.length)) = true)
    (hN2 : (decide (u1 < st.tmps.length) && decide (u2 < st.tmps.length) && decide (u3 < st.tmps.length) && decide (u4 < st.tmps.length) && decide (u5 < st.tmps.length)) = true)
    (hd : List.Pairwise (· ≠ ·) [s, a1, a2, t1, t2, t3, t4, t5, t6, t7]) (hd2 : List.Pairwise (· ≠ ·) [s, a3, u1, u2, u3, u4, u5])
    (hT : P.underlying T = some (.slice e)) (hi : P.info? e = some ti) (hz : ti.zero = some z) (hzd : constD z = some zd) (hzn : z.cells.size = n) (hsize : ti.size = n) (hn : 0 < n) (hby : ti.bytes ≤ 65536)
    (hs : st.tmps[s]? = some (.own n (xs.map enc))) (hi1 : valD st (.tmp a1) = some (.int .i64 i)) (hj1 : valD st (.tmp a2) = some (.int .i64 j))
    (hst2 : ((st.junk [t1, t2, t3, t4, t5, t6, t7]).take s).put (some s) (.own n ((xs.take i.toNat ++ xs.drop j.toNat).map enc)) = st2) (h3v : valD st2 (.tmp a3) = some (.int .i64 xs.length))
    (hq : SW P pu Y (st2.junk [u1, u2, u3, u4, u5]) Q) :
    SW P pu (.seq (.region id #[o1, o2, o3, o4, o5, o6, o7, o8] true) (.seq (.region id2 #[p1, p2, p3, p4, p5, p6] false) Y)) st Q :=
  SW.del (xs := xs.map enc) hm hB h1 h2 h3 h4 h5 h6 h7 h8 k1 k2 k3 k4 k5 k6 hN hN2 hd hd2 hT hi hz hzd hzn hsize hn hby hs hi1 hj1 (by simpa only [List.length_map] using hij) (by simpa only [List.map_append, List.map_take, List.map_drop] using hst2) (by rw [List.length_map]; exact h3v) hq
end Go.Sh
set_option linter.unusedVariables false
namespace Go.Sh

theorem PC.of_calls {P : Program} {f : FuncId} {args : List SV} {r : SV} (h : ∀ (w : World) (g : Gh) (vs : Array Value), RArgs g w vs args → Calls P f vs w fun e w' => ∃ v, e = .returned v ∧ w' = w ∧ RRes g w v r) : PC P f args r := by
  intro H w g vs hA hH
  refine (h w g vs hA).mono fun e w' hh => ?_
  obtain ⟨v, rfl, rfl, hr⟩ := hh
  exact ⟨v, g, rfl, hr, hH, Fr.refl _ _ _⟩

theorem RArgs.strs2 {g : Gh} {w : World} {vs : Array Value} {a b : List UInt8} (h : RArgs g w vs [vS a, vS b]) : vs = #[.string (mk a), .string (mk b)] := by
  obtain ⟨h1, h2⟩ := h
  obtain ⟨u0, e0, r0⟩ := h2 0 (vS a) rfl
  obtain ⟨u1, e1, r1⟩ := h2 1 (vS b) rfl
  have r0 : Rd g w u0 (.str a) := r0
  have r1 : Rd g w u1 (.str b) := r1
  cases r0; cases r1
  apply Array.ext_getElem?
  intro i
  match i with
  | 0 => simpa using e0
  | 1 => simpa using e1
  | i + 2 => rw [Array.getElem?_eq_none (by rw [h1]; simp), Array.getElem?_eq_none (by simp)]

/-- Texts compared: -1, 0, 1. -/
def cmpS (fuel : Nat) (a b : List UInt8) : Option Int := some (Lib.compareBytes a b)

theorem cmpS_pc {P : Program} {f fuel : Nat} {a b : List UInt8} {r : Int} (h : cmpS fuel a b = some r)
    (hc : ∀ (a b : ByteArray) (w : World), Calls P f #[.string a, .string b] w fun e w' => e = .returned (.int .i64 (Lib.compareBytes a.data.toList b.data.toList)) ∧ w' = w) : PC P f [vS a, vS b] (vI r) := by
  cases h
  refine PC.of_calls fun w g vs hA => ?_
  rw [hA.strs2]
  refine (hc (mk a) (mk b) w).mono fun e w' hh => ?_
  obtain ⟨rfl, rfl⟩ := hh
  exact ⟨_, rfl, rfl, (.int : Rd g w' _ _)⟩
end Go.Sh
set_option linter.unusedVariables false
set_option linter.unusedSimpArgs false
namespace Go.Sh
section
variable {P : Program} {pu : Bool} {st : St} {ops : Array Oper}

def markL : List Nat → Array Bool → Array Bool
  | [], l => l
  | m :: ms, l => markL ms (l.setIfInBounds m true)

def movesB (ops : Array Oper) : List Nat → Array Bool → Bool
  | [], _ => true
  | m :: ms, l => ((ops[m]?).map isMove).getD false && (Region.ready .any ops l).contains m && Region.free .any ops l m && movesB ops ms (l.setIfInBounds m true)

theorem markL_size : ∀ (ms : List Nat) (l : Array Bool), (markL ms l).size = l.size
  | [], _ => rfl
  | m :: ms, l => by rw [markL, markL_size ms]; simp

theorem markL_mono : ∀ (ms : List Nat) (l : Array Bool) (i : Nat), l.getD i false = true → (markL ms l).getD i false = true
  | [], _, _, h => h
  | m :: ms, l, i, h => markL_mono ms _ i (getD_set_true h)

theorem markL_mem : ∀ (ms : List Nat) (l : Array Bool) (i : Nat), i ∈ ms → i < l.size → (markL ms l).getD i false = true
  | [], _, _, h, _ => by simp at h
  | m :: ms, l, i, h, hi => by
    rcases List.mem_cons.1 h with rfl | h
    · exact markL_mono ms _ i (by simp [hi])
    · exact markL_mem ms _ i h (by simpa using hi)

theorem markL_not : ∀ (ms : List Nat) (l : Array Bool) (i : Nat), i ∉ ms → (markL ms l).getD i true = l.getD i true
  | [], _, _, _ => rfl
  | m :: ms, l, i, h => by
    rw [markL, markL_not ms _ i (fun h' => h (List.mem_cons_of_mem _ h')), getD_set_ne true (fun (e : m = i) => h (by simp [e]))]

theorem markL_closed : ∀ (ms : List Nat) (l : Array Bool), movesB ops ms l = true → (∀ j oj, ops[j]? = some oj → l.getD j false = true → ∀ e ∈ oj.after, Region.binds .any e = true → l.getD e.on false = true) →
    ∀ j oj, ops[j]? = some oj → (markL ms l).getD j false = true → ∀ e ∈ oj.after, Region.binds .any e = true → (markL ms l).getD e.on false = true
  | [], _, _, h => h
  | m :: ms, l, hb, h => by
    simp only [movesB, Bool.and_eq_true] at hb
    refine markL_closed ms _ hb.2 fun j oj hj hl e he hbd => ?_
    obtain ⟨_, om, hom, hall⟩ := mem_ready.1 (by simpa using hb.1.1.2 : m ∈ Region.ready .any ops l)
    by_cases hmj : m = j
    · subst hmj
      have : oj = om := Option.some.inj (hj.symm.trans hom)
      subst this
      exact getD_set_true (hall e he hbd)
    · rw [getD_set_ne false hmj] at hl
      exact getD_set_true (h j oj hj hl e he hbd)

theorem wpAny_moves {R : Act → World → Prop} (hng : ops.all (fun o => o.guard.isNone) = true) (hsel : ∀ (j : Nat) (o : Oper) cs b, ops[j]? = some o → o.op ≠ .select cs b) {hds : List Nat} {Q : Act → Prop} {w : World} {fuel : Nat} :
    ∀ (ms : List Nat) (l : Array Bool) (a : Act), movesB ops ms l = true → (∀ a', wpStill P ops w Q (opsOf ops hds) a' → wpAny P .any ops (NQ R) fuel (markL ms l) a' w) →
      wpStill P ops w Q (opsOf ops (ms ++ hds)) a → wpAny P .any ops (NQ R) (ms.length + fuel) l a w
  | [], l, a, _, hk, h => by simpa [markL] using hk a h
  | m :: ms, l, a, hb, hk, h => by
    simp only [movesB, Bool.and_eq_true] at hb
    obtain ⟨⟨⟨b1, b2⟩, b3⟩, b4⟩ := hb
    have hmr : m ∈ Region.ready .any ops l := by simpa using b2
    obtain ⟨hm0, om, hom, hmall⟩ := mem_ready.1 hmr
    have hop : ∃ x, om.op = .move x := by
      rw [hom] at b1
      simp only [Option.map_some, Option.getD_some] at b1
      unfold isMove at b1
      split at b1
      · exact ⟨_, by assumption⟩
      · cases b1
    obtain ⟨x, hop⟩ := hop
    have hmg : om.guard = none := opsOf_ng hng [m] om (by simp [opsOf, hom])
    have hcons : opsOf ops (m :: ms ++ hds) = om :: opsOf ops (ms ++ hds) := by simp [opsOf, hom]
    rw [hcons] at h
    unfold wpStill at h
    rw [if_pos (wanted_ng hmg _)] at h
    have hexec : (execOp a.eval om).run P w = .ok (.value (a.eval x)) w := by unfold execOp; rw [hop]; rfl
    unfold Oper.still at h
    rw [hexec, Oper.stillUpon_value] at h
    have := wpAny_moves hng hsel ms (l.setIfInBounds m true) _ b4 hk h
    have e : (m :: ms).length + fuel = (ms.length + fuel) + 1 := by simp; omega
    rw [e]
    exact wpAny_move hom hop hmg hsel _ _ a _ (Region.free_spec hom b3) hmr this

def permML (ops : Array Oper) (ms hds : List Nat) (t0 : Nat) (ts : List Nat) : Array Oper := (opsOf ops (ms ++ hds) ++ opsOf ops (t0 :: ts)).toArray

def permMB (ops : Array Oper) (ms hds : List Nat) (t0 : Nat) (ts : List Nat) : Bool :=
  Region.noSelect ops && ops.all (fun o => o.guard.isNone) && movesB ops ms (Array.replicate ops.size false) &&
    sinkH .any ops hds t0 && chainH .any ops t0 ts && hds.all (fun i => !(t0 :: ts).contains i) && ms.all (fun i => !(t0 :: ts).contains i) && decide (ops.size = ms.length + (hds.length + (ts.length + 1))) &&
    (List.range ops.size).all (fun i => hds.contains i || (t0 :: ts).contains i || ms.contains i) && (t0 :: ts).all (fun i => decide (i < ops.size)) && decide ((opsOf ops (ms ++ hds)).length = ms.length + hds.length) &&
    lexHeadH .any ops (t0 :: ts) hds (markL ms (Array.replicate ops.size false))

theorem SW.regionM {id : Nat} {l : List Oper} {Q : Exit → St → Prop} (ms hds : List Nat) (t0 : Nat) (ts : List Nat) (k : Nat) (hk : decide (k = ms.length + hds.length) = true) (hm : P.follows .mixedOrders = true) (hB : permMB l.toArray ms hds t0 ts = true)
    (h : OBk P (permML l.toArray ms hds t0 ts) k 0 st (fun st1 => OWk P pu (permML l.toArray ms hds t0 ts) k st1 (Q .normal))) : SW P pu (.region id l.toArray true) st Q := by
  have hk := of_decide_eq_true hk
  subst hk
  generalize hops : l.toArray = ops at *
  intro a w g hr
  refine Code.wp_mono (Q := NQ fun a' w' => ∃ st' g', Q .normal st' ∧ Rel st' a' w' g' ∧ Fr pu g w g' w') (fun e a' w' hh => by obtain ⟨rfl, hh⟩ := hh; exact hh) ?_
  simp only [permMB, Bool.and_eq_true, decide_eq_true_eq] at hB
  obtain ⟨⟨⟨⟨⟨⟨⟨⟨⟨⟨⟨b1, b2⟩, b3⟩, b6⟩, b7⟩, b8⟩, b9⟩, b10⟩, b11⟩, b12⟩, b13⟩, b14⟩ := hB
  refine wp_region_any hm ?_
  have hms : ∀ i ∈ ms, i ∉ t0 :: ts := fun i hi => by have := List.all_eq_true.1 b9 i hi; simpa using this
  have inv : HInv .any ops hds t0 ts (markL ms (Array.replicate ops.size false)) := by
    refine ⟨by rw [markL_size]; simp, markL_closed ms _ b3 (fun j oj hj hl => by rw [getD_replicate_false] at hl; cases hl), fun t ht => ?_, fun i hi h1 h2 => ?_⟩
    · rw [markL_not ms _ t (fun h => hms t h ht)]
      have := List.all_eq_true.1 b12 t ht
      simp at this
      simp [this]
    · have := List.all_eq_true.1 b11 i (List.mem_range.2 hi)
      simp only [Bool.or_eq_true, List.contains_iff_mem] at this
      rcases this with (h3 | h3) | h3
      · exact absurd h3 h1
      · exact absurd h3 h2
      · exact markL_mem ms _ i h3 (by simpa using hi)
  -- the walk in the other order
  have hl1 : (permML ops ms hds t0 ts).toList.take (ms.length + hds.length) = opsOf ops (ms ++ hds) := by simp only [permML]; rw [List.take_append_of_le_length (by omega), List.take_of_length_le (by omega)]
  have hl2 : (permML ops ms hds t0 ts).toList.drop (ms.length + hds.length) = opsOf ops (t0 :: ts) := by simp only [permML]; rw [← b13, List.drop_left']; rfl
  unfold OBk at h
  rw [List.drop_zero, hl1] at h
  have key := h a w.drew g hr.drew (fun a' => wpList P ops (NQ fun a' w' => ∃ st' g', Q .normal st' ∧ Rel st' a' w' g' ∧ Fr pu g w g' w') (opsOf ops (t0 :: ts)) a' w.drew) (fun st1 a1 g1 q1 r1 f1 => by
    refine wpList_ng (opsOf_ng b2 _) (ops' := permML ops ms hds t0 ts) ?_
    unfold OWk at q1
    rw [hl2] at q1
    exact q1 a1 w.drew g1 r1 _ fun st' a' w' g' q r f => ⟨rfl, st', g', q, r, (Fr.drew.trans (f1 pu)).trans f⟩)
  have key := wpStill_ng (ops := ops) (opsOf_ng b2 (ms ++ hds)) key
  have hsz : ops.size = ms.length + (hds.length + (ts.length + 1)) := b10
  rw [hsz]
  rw [hsz] at inv b14
  refine wpAny_moves b2 (Region.noSelect_spec b1) ms _ a (by rw [← hsz]; exact b3) (fun a' ha' => ?_) key
  refine wpAny_of_headH (hds := hds) (g := ts.length + 1) (fun listed' a' hL => ?_) hds.length _ _ (wpAnyH_lex b1 b6 b7 (fun i hi => by have := List.all_eq_true.1 b8 i hi; simpa using this) hds _ _ (fun _ h => h) inv b14 ha')
  exact wpAny_of_seqH (t0 :: ts) listed' a' _ hL.1 hL.2
end
end Go.Sh
set_option linter.unusedVariables false
namespace Go.Sh

def elemB (P : Program) (T e : TypeId) (n : Nat) : Bool :=
  match P.underlying T, P.info? e with
  | some (.slice e'), some ti => match ti.zero with
    | some z => e' == e && (constD z).isSome && z.cells.size == n && ti.size == n && decide (0 < n) && decide (ti.bytes ≤ 65536)
    | none => false
  | _, _ => false

theorem elemB_spec {P : Program} {T e : TypeId} {n : Nat} (h : elemB P T e n = true) :
    P.underlying T = some (.slice e) ∧ ∃ ti z zd, P.info? e = some ti ∧ ti.zero = some z ∧ constD z = some zd ∧ z.cells.size = n ∧ ti.size = n ∧ 0 < n ∧ ti.bytes ≤ 65536 := by
  unfold elemB at h
  split at h
  · rename_i e' ti hT hi
    split at h
    · rename_i z hz
      simp only [Bool.and_eq_true, decide_eq_true_eq, beq_iff_eq, Option.isSome_iff_exists] at h
      obtain ⟨⟨⟨⟨⟨rfl, zd, hzd⟩, h1⟩, h2⟩, h3⟩, h4⟩ := h
      exact ⟨hT, ti, z, zd, hi, hz, hzd, h1, h2, h3, h4⟩
    · cases h
  · cases h
end Go.Sh
set_option linter.unusedVariables false
set_option linter.unusedSimpArgs false
namespace Go.Sh
section
variable {P : Program}

/-- A row of cells stays as it is. -/
def KeepsS {α : Type} (P : Program) (m : Sem α) : Prop :=
  ∀ (w w' : World) (x : α) (r : Nat) (c : Array Value) (T : TypeId) (z : Nat × Nat), w.heap[r]? = some (.cells c T z) → m.run P w = .ok x w' → w'.heap[r]? = some (.cells c T z)

theorem KeepsS.pure {α : Type} (x : α) : KeepsS P (Pure.pure x : Sem α) := fun w w' y r c T z h h1 => by
  rw [Sem.run_pure] at h1; cases h1; exact h

theorem KeepsS.halt {α : Type} (hh : Halt) : KeepsS P (Sem.halt hh : Sem α) := fun w w' y r c T z h h1 => by simp [Sem.run] at h1

theorem KeepsS.bind {α β : Type} {m : Sem α} {f : α → Sem β} (h1 : KeepsS P m) (h2 : ∀ x, KeepsS P (f x)) : KeepsS P (m >>= f) := fun w w' y r c T z h h3 => by
  rw [Sem.run_bind] at h3
  cases hm : m.run P w with
  | ok x w1 => rw [hm, Result.andThen_ok] at h3; exact h2 x _ _ _ _ _ _ _ (h1 _ _ _ _ _ _ _ h hm) h3
  | halt y w1 => rw [hm] at h3; cases h3

theorem KeepsS.panic {α : Type} (s : String) : KeepsS P (runtimePanic (.plain s) : Sem α) := fun w w' y r c T z h h1 => by
  unfold runtimePanic at h1
  simp [Sem.run_bind, Go.program, Sem.run, Result.andThen_ok, goPanic] at h1

theorem KeepsS.getObj (r0 : Nat) : KeepsS P (Go.getObj r0) := fun w w' y r c T z h h1 => by
  simp only [Go.getObj, Sem.run] at h1
  split at h1
  · cases h1
  · cases h1; exact h
  · cases h1

theorem KeepsS.setObj (r0 : Nat) (o : Obj) : KeepsS P (Go.setObj r0 o) := fun w w' y r c T z h h1 => by
  simp only [Go.setObj, Sem.run] at h1
  split at h1
  · cases h1
  · rename_i o' hne ho'
    cases h1
    have : r0 ≠ r := by rintro rfl; rw [h] at ho'; cases ho'; exact hne _ _ _ rfl
    simp only [Array.getElem?_setIfInBounds, this, if_false]
    exact h
  · cases h1

theorem KeepsS.choose (q : Question) : KeepsS P (Go.choose q) := fun w w' y r c T z h h1 => by
  simp only [Go.choose, Sem.run] at h1
  split at h1 <;> cases h1 <;> exact h

theorem KeepsS.program : KeepsS P Go.program := fun w w' y r c T z h h1 => by
  simp only [Go.program, Sem.run] at h1
  cases h1; exact h

theorem KeepsS.typeInfo (t : TypeId) : KeepsS P (Go.typeInfo t) := by
  unfold Go.typeInfo
  refine KeepsS.program.bind fun p => ?_
  split
  · exact KeepsS.pure _
  · exact KeepsS.halt _

theorem KeepsS.underlying (t : TypeId) : KeepsS P (Go.underlying t) := by
  unfold Go.underlying
  refine KeepsS.program.bind fun p => ?_
  split
  · exact KeepsS.pure _
  · exact KeepsS.halt _

theorem KeepsS.zeroValue (t : TypeId) : KeepsS P (Go.zeroValue t) := by
  unfold Go.zeroValue
  refine (KeepsS.typeInfo t).bind fun p => ?_
  split
  · exact KeepsS.pure _
  · exact KeepsS.halt _

theorem KeepsS.asInt (v : Value) : KeepsS P (Go.asInt v) := by
  unfold Go.asInt
  refine KeepsS.bind ?_ fun _ => KeepsS.pure _
  unfold asIntOf
  split
  · exact KeepsS.pure _
  · exact KeepsS.halt _
  · exact KeepsS.halt _

theorem KeepsS.load (a : Addr) : KeepsS P (Go.load a) := fun w w' y r c T z h h1 => by
  simp only [Go.load, Sem.run] at h1
  split at h1
  · cases h1; exact h
  · split at h1
    · cases h1; exact h
    · cases h1

theorem KeepsS.loadCellsFrom (a : Addr) : ∀ (n i : Nat) (acc : Array Value), KeepsS P (Go.loadCellsFrom a i n acc)
  | 0, i, acc => KeepsS.pure _
  | n + 1, i, acc => by
    unfold Go.loadCellsFrom
    exact (KeepsS.load _).bind fun v => KeepsS.loadCellsFrom a n _ _

theorem KeepsS.loadAt (t : TypeId) (x : Value) : KeepsS P (Instr.loadAt t x) := by
  unfold Instr.loadAt
  refine KeepsS.bind ?_ fun a => ?_
  · unfold Instr.sureAddr
    split
    · exact KeepsS.pure _
    · exact KeepsS.halt _
  · unfold loadVar
    refine KeepsS.bind ?_ fun b => ?_
    · unfold isAgg
      refine (KeepsS.underlying t).bind fun d => ?_
      split <;> exact KeepsS.pure _
    · split
      · refine KeepsS.bind ?_ fun n => KeepsS.bind (KeepsS.loadCellsFrom _ _ _ _) fun _ => KeepsS.pure _
        unfold sizeOf
        exact (KeepsS.typeInfo t).bind fun _ => KeepsS.pure _
      · exact KeepsS.load _

theorem KeepsS.extract (t : Value) (i : Nat) : KeepsS P (Instr.extract t i) := by
  unfold Instr.extract
  split
  · split
    · exact KeepsS.pure _
    · exact KeepsS.halt _
  · exact KeepsS.halt _

/-- The keys are strings. -/
def strKeyB (P : Program) (T : TypeId) : Bool := match P.underlying T with | some (.map k _) => (match P.underlying k with | some .string => true | _ => false) | _ => false

theorem KeepsS.equal {k : TypeId} (hk : P.underlying k = some .string) (x y : Value) : KeepsS P (Op.equal k x y) := fun w w' b r c T z h h1 => by
  unfold Op.equal Op.maxDepth Op.equalIn at h1
  simp only [Sem.run_bind, run_underlying hk, Result.andThen_ok] at h1
  revert h1
  cases x <;> cases y <;> simp (config := { contextual := true }) only [Sem.run_pure, stuck, Sem.run, Result.ok.injEq, reduceCtorEq, false_implies, implies_true, and_imp]
  rintro - rfl
  exact h

theorem KeepsS.findAsking {k : TypeId} (hk : P.underlying k = some .string) (x : Value) : ∀ (es : List MapEntry) (i : Nat), KeepsS P (Instr.findAsking k x es i)
  | [], i => KeepsS.pure _
  | e :: es, i => by
    unfold Instr.findAsking
    refine (KeepsS.equal hk _ _).bind fun b => ?_
    split
    · exact KeepsS.pure _
    · exact KeepsS.findAsking hk x es _

theorem KeepsS.findKey {k : TypeId} (hk : P.underlying k = some .string) (x : Value) (es : List MapEntry) : KeepsS P (Instr.findKey k x es) := by
  unfold Instr.findKey
  refine (KeepsS.underlying k).bind fun d => ?_
  split
  · exact KeepsS.pure _
  · exact KeepsS.findAsking hk x es _

theorem KeepsS.checkKey {k : TypeId} (hk : P.underlying k = some .string) (e : Bool) (n : Nat) (x : Value) : KeepsS P (Instr.checkKey e (n + 1) k x) := fun w w' b r c T z h h1 => by
  unfold Instr.checkKey at h1
  simp only [Sem.run_bind, run_underlying hk, Result.andThen_ok] at h1
  revert h1
  cases x <;> simp only [Sem.run_pure] <;> intro h1 <;> cases h1 <;> exact h

theorem KeepsS.keyThatStays (x y : Value) : KeepsS P (Instr.keyThatStays x y) := by
  unfold Instr.keyThatStays
  split
  · exact KeepsS.pure _
  · refine KeepsS.bind (KeepsS.choose _) fun n => KeepsS.pure _

theorem KeepsS.under {T : TypeId} {d : TypeDesc} (hd : P.underlying T = some d) {α : Type} {f : TypeDesc → Sem α} (h : KeepsS P (f d)) : KeepsS P (Go.underlying T >>= f) := fun w w' y r c T' z h0 h1 => by
  rw [Sem.run_bind, run_underlying hd, Result.andThen_ok] at h1
  exact h _ _ _ _ _ _ _ h0 h1

theorem KeepsS.mapEntry {T : TypeId} (hT : strKeyB P T = true) (m key : Value) : KeepsS P (Instr.mapEntry T m key) := by
  unfold strKeyB at hT
  split at hT
  · rename_i k e hk
    split at hT
    · rename_i hs
      unfold Instr.mapEntry
      refine KeepsS.under hk ?_
      simp only
      split
      · exact KeepsS.panic _
      · refine (KeepsS.getObj _).bind fun o => ?_
        split
        · refine (KeepsS.checkKey hs _ _ _).bind fun _ => (KeepsS.findKey hs _ _).bind fun o' => ?_
          split
          · exact (KeepsS.keyThatStays _ _).bind fun _ => (KeepsS.setObj _ _).bind fun _ => KeepsS.pure _
          · exact (KeepsS.zeroValue _).bind fun _ => (KeepsS.setObj _ _).bind fun _ => KeepsS.pure _
        · exact KeepsS.halt _
      · exact KeepsS.halt _
    · cases hT
  · cases hT

theorem KeepsS.entryStore (T : TypeId) (m s x : Value) : KeepsS P (Instr.entryStore T m s x) := by
  unfold Instr.entryStore
  split
  · refine (KeepsS.getObj _).bind fun o => ?_
    split
    · refine (KeepsS.asInt _).bind fun _ => ?_
      split
      · exact KeepsS.setObj _ _
      · exact KeepsS.halt _
    · exact KeepsS.halt _
  · exact KeepsS.halt _

theorem KeepsS.isAgg (t : TypeId) : KeepsS P (Go.isAgg t) := by
  unfold Go.isAgg
  refine (KeepsS.underlying t).bind fun d => ?_
  split <;> exact KeepsS.pure _

theorem KeepsS.part (t : TypeId) (cs : Array Value) (off : Nat) : KeepsS P (Go.part t cs off) := by
  unfold Go.part
  refine (KeepsS.isAgg t).bind fun b => ?_
  split
  · refine KeepsS.bind ?_ fun n => KeepsS.pure _
    unfold sizeOf
    exact (KeepsS.typeInfo t).bind fun _ => KeepsS.pure _
  · split
    · exact KeepsS.pure _
    · exact KeepsS.halt _

theorem KeepsS.followBlind : ∀ (l : List FieldStep) (t : TypeId) (x : Option Value), KeepsS P (Go.followBlind l t x)
  | [], t, x => KeepsS.pure _
  | s :: rest, t, x => by
    unfold Go.followBlind
    refine (KeepsS.underlying _).bind fun d => ?_
    split
    · split
      · split
        · exact KeepsS.pure _
        · exact KeepsS.followBlind rest _ _
        · exact KeepsS.halt _
        · exact KeepsS.pure _
        · exact (KeepsS.part _ _ _).bind fun _ => KeepsS.followBlind rest _ _
        · exact KeepsS.halt _
        · exact KeepsS.followBlind rest _ _
      · exact KeepsS.halt _
    · exact KeepsS.halt _

theorem KeepsS.nilAhead : ∀ (n : Nat) (t : TypeId) (v : Value) (nm : String), KeepsS P (Go.nilAhead n t v nm)
  | 0, t, v, nm => KeepsS.pure _
  | n + 1, t, v, nm => by
    unfold Go.nilAhead
    refine (KeepsS.typeInfo _).bind fun ti => ?_
    split
    · refine (KeepsS.followBlind _ _ _).bind fun r => ?_
      split
      · exact KeepsS.pure _
      · split
        · exact KeepsS.nilAhead n _ _ _
        · exact KeepsS.pure _
        · exact KeepsS.halt _
        · exact KeepsS.pure _
        · exact KeepsS.pure _
        · refine (KeepsS.underlying _).bind fun d => ?_
          split <;> exact KeepsS.pure _
    · exact KeepsS.halt _

theorem KeepsS.nilDeref {α : Type} : KeepsS P (runtimePanic .nilDeref : Sem α) := fun w w' y r c T z h h1 => by
  unfold runtimePanic at h1
  simp [Sem.run_bind, Go.program, Sem.run, Result.andThen_ok, goPanic] at h1

def fieldB (P : Program) (s : TypeId) (f : Nat) : Bool := match P.underlying s with
  | some (.struct fs) => (match fs[f]? with | some fl => ((P.info? fl.type).map fun i => i.size != 0).getD false | none => false)
  | _ => false

theorem fieldB_run {s : TypeId} {f : Nat} (h : fieldB P s f = true) : ∃ off : Nat, ∀ (k o : Nat) (w : World), (Instr.fieldAt s (.pointer (some ⟨k, o, none⟩)) f).run P w = .ok (.pointer (some ⟨k, o + off, none⟩)) w := by
  unfold fieldB at h
  split at h
  · rename_i fs hs
    split at h
    · rename_i fl hf
      cases hi : P.info? fl.type with
      | none => rw [hi] at h; cases h
      | some i =>
        rw [hi] at h
        simp only [Option.map_some, Option.getD_some, bne_iff_ne, ne_eq] at h
        refine ⟨fl.offset, fun k o w => ?_⟩
        have hti : ∀ w, (Go.typeInfo fl.type).run P w = .ok i w := fun w => by
          unfold Go.typeInfo Go.program
          simp [Sem.run_bind, Sem.run, hi]
        simp only [Instr.fieldAt, Sem.run_bind, run_underlying hs, Result.andThen_ok, hf, Instr.sureAddr, Sem.run_pure, fieldPlace, sizeOf, hti, h, if_false]
        unfold Addr.add
        split
        · rename_i h0; rw [h0]; rfl
        · rfl
    · cases h
  · cases h

theorem KeepsS.fieldAt {s : TypeId} {f : Nat} (h : fieldB P s f = true) (x : Value) : KeepsS P (Instr.fieldAt s x f) := by
  unfold fieldB at h
  split at h
  · rename_i fs hs
    split at h
    · rename_i fl hf
      cases hi : P.info? fl.type with
      | none => rw [hi] at h; cases h
      | some i =>
        rw [hi] at h
        simp only [Option.map_some, Option.getD_some, bne_iff_ne, ne_eq] at h
        unfold Instr.fieldAt
        refine KeepsS.under hs ?_
        simp only [hf]
        refine KeepsS.bind ?_ fun a => ?_
        · unfold Instr.sureAddr
          split
          · exact KeepsS.pure _
          · exact KeepsS.halt _
        · refine KeepsS.bind ?_ fun _ => KeepsS.pure _
          unfold fieldPlace
          intro w w' y r c T z h0 h1
          have hti : ∀ w, (Go.typeInfo fl.type).run P w = .ok i w := fun w => by
            unfold Go.typeInfo Go.program
            simp [Sem.run_bind, Sem.run, hi]
          simp only [Sem.run_bind, sizeOf, hti, Result.andThen_ok, Sem.run_pure, h, if_false] at h1
          cases h1
          exact h0
    · cases h
  · cases h

/-- What may stand between: no row of cells is written, nothing is entered. -/
def keepsB (P : Program) (o : Oper) : Bool := match o.op with
  | .move _ | .assign _ | .extract _ _ | .load _ _ | .entryStore _ _ _ _ | .nilCheck _ => true
  | .fieldAddr s _ f => fieldB P s f
  | .mapEntry T _ _ => strKeyB P T
  | _ => false

def plainN : Next → Bool | .value _ | .skip => true | _ => false

theorem keepsB_v {m : Sem Value} (h : KeepsS P m) {w w' : World} {n : Next} {r : Nat} {c : Array Value} {T : TypeId} {z : Nat × Nat} (h0 : w.heap[r]? = some (.cells c T z)) (h1 : (do pure (.value (← m)) : Sem Next).run P w = .ok n w') :
    w'.heap[r]? = some (.cells c T z) ∧ plainN n = true := by
  refine ⟨KeepsS.bind h (fun _ => KeepsS.pure _) _ _ _ _ _ _ _ h0 h1, ?_⟩
  rw [Sem.run_bind] at h1
  cases hm : m.run P w with
  | ok x w1 => rw [hm, Result.andThen_ok, Sem.run_pure] at h1; cases h1; rfl
  | halt y w1 => rw [hm] at h1; cases h1

theorem keepsB_u {m : Sem Unit} (h : KeepsS P m) {w w' : World} {n : Next} {r : Nat} {c : Array Value} {T : TypeId} {z : Nat × Nat} (h0 : w.heap[r]? = some (.cells c T z)) (h1 : (do m; pure .skip : Sem Next).run P w = .ok n w') :
    w'.heap[r]? = some (.cells c T z) ∧ plainN n = true := by
  refine ⟨KeepsS.bind h (fun _ => KeepsS.pure _) _ _ _ _ _ _ _ h0 h1, ?_⟩
  rw [Sem.run_bind] at h1
  cases hm : m.run P w with
  | ok x w1 => rw [hm, Result.andThen_ok, Sem.run_pure] at h1; cases h1; rfl
  | halt y w1 => rw [hm] at h1; cases h1

def PlainS (P : Program) (m : Sem Next) : Prop := ∀ (w : World) (n : Next) (w' : World), m.run P w = .ok n w' → plainN n = true
theorem PlainS.bind {α : Type} {m : Sem α} {f : α → Sem Next} (h2 : ∀ x, PlainS P (f x)) : PlainS P (m >>= f) := fun w n w' h => by
  rw [Sem.run_bind] at h
  cases hm : m.run P w with
  | ok x w1 => rw [hm, Result.andThen_ok] at h; exact h2 x _ _ _ h
  | halt y w1 => rw [hm] at h; cases h

theorem keepsB_n {m : Sem Next} (h : KeepsS P m) {w w' : World} {n : Next} {r : Nat} {c : Array Value} {T : TypeId} {z : Nat × Nat} (hn : ∀ w n w', m.run P w = .ok n w' → plainN n = true) (h0 : w.heap[r]? = some (.cells c T z)) (h1 : m.run P w = .ok n w') :
    w'.heap[r]? = some (.cells c T z) ∧ plainN n = true := ⟨h _ _ _ _ _ _ _ h0 h1, hn _ _ _ h1⟩

theorem keepsB_spec {o : Oper} (h : keepsB P o = true) {ρ : Operand → Value} {w w' : World} {n : Next} {r : Nat} {c : Array Value} {T : TypeId} {z : Nat × Nat} (h0 : w.heap[r]? = some (.cells c T z)) (h1 : (execOp ρ o).run P w = .ok n w') :
    w'.heap[r]? = some (.cells c T z) ∧ plainN n = true := by
  unfold keepsB at h
  unfold execOp at h1
  split at h <;> rename_i hop <;> simp only [hop] at h1
  · rw [Sem.run_pure] at h1; cases h1; exact ⟨h0, rfl⟩
  · rw [Sem.run_pure] at h1; cases h1; exact ⟨h0, rfl⟩
  · exact keepsB_v (KeepsS.extract _ _) h0 h1
  · exact keepsB_v (KeepsS.loadAt _ _) h0 h1
  · exact keepsB_u (KeepsS.entryStore _ _ _ _) h0 h1
  · split at h1
    · exact absurd h1 (by intro h1; have := h1; unfold runtimePanic at this; simp [Sem.run_bind, Go.program, Sem.run, Result.andThen_ok, goPanic] at this)
    · exact absurd h1 (by intro h1; have := h1; unfold runtimePanic at this; simp [Sem.run_bind, Go.program, Sem.run, Result.andThen_ok, goPanic] at this)
    · exact absurd h1 (by intro h1; have := h1; unfold runtimePanic at this; simp [Sem.run_bind, Go.program, Sem.run, Result.andThen_ok, goPanic] at this)
    · split at h1
      · exact absurd h1 (by intro h1; have := h1; unfold runtimePanic at this; simp [Sem.run_bind, Go.program, Sem.run, Result.andThen_ok, goPanic] at this)
      · refine keepsB_n ?_ ?_ h0 h1
        · refine KeepsS.program.bind fun _ => (KeepsS.nilAhead _ _ _ _).bind fun _ => ?_
          split
          · exact KeepsS.halt _
          · exact KeepsS.pure _
        · refine PlainS.bind fun _ => PlainS.bind fun _ => ?_
          split
          · exact fun w n w' h => by simp [unsupported, Sem.run, Result.andThen, Sem.run_bind] at h
          · exact fun w n w' h => by rw [Sem.run_pure] at h; cases h; rfl
      · rw [Sem.run_pure] at h1; cases h1; exact ⟨h0, rfl⟩
    · rw [Sem.run_pure] at h1; cases h1; exact ⟨h0, rfl⟩
  · exact keepsB_v (KeepsS.fieldAt h _) h0 h1
  · exact keepsB_v (KeepsS.mapEntry h _ _) h0 h1
  · cases h
end
end Go.Sh
set_option linter.unusedVariables false
set_option linter.unusedSimpArgs false
namespace Go.Sh
section
variable {P : Program} {ops : Array Oper} {md : Region.Mode} {R : Act → World → Prop}

theorem wpOp_steady {j : Nat} {oi oj : Oper} {p : Tmp} {pv u : Value} {r : Nat} {c : Array Value} {T : TypeId} {z : Nat × Nat} (hj : ops[j]? = some oj) (hop : Operand.tmp p ∈ oi.op.operands.toList) (hap : oi.apart ops oj = true) (hsj : ∀ cs b, oj.op ≠ .select cs b) (hk : keepsB P oj = true)
    {K : Act → World → Prop} {a : Act} {w : World} (hJ : w.heap[r]? = some (.cells c T z)) (hv : a.eval (.tmp p) = pv) (h : wpOp P ops (NQ R) j K (a.put oi.dst u) w) :
    wpOp P ops (NQ R) j (fun a' w' => a'.eval (.tmp p) = pv ∧ w'.heap[r]? = some (.cells c T z) ∧ K (a'.put oi.dst u) w') a w := by
  obtain ⟨h1, h2, h3⟩ := Oper.apart_spec hap
  have keep : ∀ y, (a.put oj.dst y).eval (.tmp p) = pv := fun y => by
    rw [Act.eval_put fun d hd e => h3 d hd ?_]
    · exact hv
    · cases e
      exact List.mem_append_left _ (List.mem_filterMap.2 ⟨.tmp p, hop, rfl⟩)
  unfold wpOp at *
  simp only [hj] at *
  rw [wanted_put oj a oi.dst u h1] at h
  split
  · rename_i hw
    simp only [hw, if_true] at h
    refine .inl ?_
    rcases h with h | h
    · unfold Oper.wp at *
      rw [execOp_put oj hsj a oi.dst u h1] at h
      cases hr : (execOp a.eval oj).run P w with
      | ok n w' =>
        obtain ⟨g1, g2⟩ := keepsB_spec hk hJ hr
        rw [hr] at h
        cases n <;> simp only [plainN, reduceCtorEq] at g2 <;> simp only [Oper.upon] at h ⊢
        case value y => exact ⟨keep y, g1, by rw [← Act.put_comm a u y h2]; exact h⟩
        case skip => exact ⟨keep _, g1, by rw [← Act.put_comm a u undef h2]; exact h⟩
      | halt y w' =>
        rw [hr] at h
        cases y <;> simp only [Oper.upon] at h ⊢
        exact absurd h.1 (by simp)
    · exact absurd h.2 NQ.out
  · rename_i hw
    simp only [hw] at h
    exact ⟨keep _, hJ, by rw [← Act.put_comm a u undef h2]; exact h⟩

theorem wpAny_steady {i : Nat} {oi : Oper} {p : Tmp} {pv u : Value} {r : Nat} {c : Array Value} {T : TypeId} {z : Nat × Nat} (hi : ops[i]? = some oi) (hop : Operand.tmp p ∈ oi.op.operands.toList) (hg : oi.guard = none) (hsel : ∀ (j : Nat) (o : Oper) cs b, ops[j]? = some o → o.op ≠ .select cs b)
    (hval : ∀ (a : Act) (w : World), a.eval (.tmp p) = pv → w.heap[r]? = some (.cells c T z) → (execOp a.eval oi).run P w = .ok (.value u) w) :
    ∀ (fuel : Nat) (listed : Array Bool) (a : Act) (w : World),
      (∀ j oj, ops[j]? = some oj → j ≠ i → listed.getD j true = false → (∀ e ∈ oj.after, Region.binds md e = true → e.on ≠ i) → oi.apart ops oj = true ∧ keepsB P oj = true) →
      i ∈ Region.ready md ops listed → a.eval (.tmp p) = pv → w.heap[r]? = some (.cells c T z) →
      wpAny P md ops (NQ R) fuel (listed.setIfInBounds i true) (a.put oi.dst u) w → wpAny P md ops (NQ R) (fuel + 1) listed a w := by
  have one : ∀ (K : Act → World → Prop) (a : Act) (w : World), a.eval (.tmp p) = pv → w.heap[r]? = some (.cells c T z) → K (a.put oi.dst u) w → wpOp P ops (NQ R) i K a w := fun K a w e1 e2 h => by
    unfold wpOp
    simp only [hi]
    have hw : Region.wanted oi (yielded ops a.tmps) = true := by unfold Region.wanted; rw [hg]
    rw [if_pos hw]
    refine .inl ?_
    unfold Oper.wp
    rw [hval a w e1 e2, Oper.upon_value]
    exact h
  intro fuel
  induction fuel with
  | zero =>
    intro listed a w _ hr e1 e2 H
    refine ⟨fun h => (by rw [h] at hr; cases hr), fun j hj => ?_⟩
    by_cases hji : j = i
    · subst hji; exact one _ a w e1 e2 H
    · have := ready_mono hj hji
      rw [H.1] at this
      cases this
  | succ fuel ih =>
    intro listed a w hfree hr e1 e2 H
    refine ⟨fun h => (by rw [h] at hr; cases hr), fun j hj => ?_⟩
    by_cases hji : j = i
    · subst hji; exact one _ a w e1 e2 H
    · have h1 := H.2 j (ready_mono hj hji)
      obtain ⟨hjun, oj, hoj, hall⟩ := mem_ready.1 hj
      have hnot : ∀ e ∈ oj.after, Region.binds md e = true → e.on ≠ i := fun e he hb heq => by
        have h1 := hall e he hb
        have h0 := (mem_ready.1 hr).1
        rw [heq] at h1
        rcases Nat.lt_or_ge i listed.size with h' | h'
        · simp [h'] at h0 h1; rw [h0] at h1; cases h1
        · simp [Array.getElem?_eq_none h'] at h1
      obtain ⟨ha, hkk⟩ := hfree j oj hoj hji hjun hnot
      have h2 := wpOp_steady hoj hop ha (fun cs b => hsel j oj cs b hoj) hkk e2 e1 h1
      have hfree' : ∀ k ok, ops[k]? = some ok → k ≠ i → (listed.setIfInBounds j true).getD k true = false →
          (∀ e ∈ ok.after, Region.binds md e = true → e.on ≠ i) → oi.apart ops ok = true ∧ keepsB P ok = true := fun k ok hk hki hun hno => by
        refine hfree k ok hk hki ?_ hno
        by_cases hjk : j = k
        · subst hjk; exact hjun
        · rw [getD_set_ne true hjk] at hun; exact hun
      refine wpOp_mono (fun a' w' h3 => ?_) h2
      obtain ⟨h3, h4, h5⟩ := h3
      refine ih (listed.setIfInBounds j true) a' w' hfree' (ready_mono hr (Ne.symm hji)) h3 h4 ?_
      rw [Array.setIfInBounds_comm _ _ hji]
      exact h5

def notAggB (P : Program) (T : TypeId) : Bool := match P.underlying T with | some (.struct _) | some (.array _ _) | none => false | _ => true

theorem notAggB_run {T T0 : TypeId} {r off : Nat} {c : Array Value} {z : Nat × Nat} {w : World} (h : notAggB P T = true) (hJ : w.heap[r]? = some (.cells c T0 z)) :
    (Instr.loadAt T (.pointer (some ⟨r, off, none⟩))).run P w = match c[off]? with | some u => .ok u w | none => .halt (w.noCell ⟨r, off, none⟩ "load: no such cell") w := by
  unfold notAggB at h
  cases hd : P.underlying T with
  | none => rw [hd] at h; cases h
  | some d =>
    rw [hd] at h
    have hagg : (isAgg T).run P w = .ok false w := by
      unfold isAgg
      simp only [Sem.run_bind, run_underlying hd, Result.andThen_ok]
      cases d <;> simp_all [Sem.run_pure]
    simp only [Instr.loadAt, Instr.sureAddr, Sem.run_bind, Sem.run_pure, Result.andThen_ok, loadVar, hagg, if_false, Bool.false_eq_true, Go.load, Sem.run, World.cell?, hJ, Option.isSome_none, World.farLoad]
    cases c[off]? <;> rfl

def othersB (P : Program) (ops : Array Oper) (l : Array Bool) (m : Nat) : Bool :=
  (List.range ops.size).all fun j => j == m || l.getD j true || match ops[j]? with
    | some oj => oj.after.any (fun e => Region.binds .any e && e.on == m) || keepsB P oj
    | none => true

theorem othersB_spec {l : Array Bool} {m : Nat} (h : othersB P ops l m = true) (j : Nat) (oj : Oper) (hj : ops[j]? = some oj) (hne : j ≠ m) (hun : l.getD j true = false) (hno : ∀ e ∈ oj.after, Region.binds .any e = true → e.on ≠ m) : keepsB P oj = true := by
  simp only [othersB, List.all_eq_true, List.mem_range] at h
  have h1 := h j (Array.getElem?_eq_some_iff.1 hj).1
  simp only [hj, Bool.or_eq_true, beq_iff_eq, hne, false_or, hun, Bool.false_eq_true] at h1
  rcases h1 with h1 | h1
  · obtain ⟨e, he, hb⟩ := Array.any_eq_true'.1 h1
    simp only [Bool.and_eq_true, beq_iff_eq] at hb
    exact absurd hb.2 (hno e he hb.1)
  · exact h1

def steadyB (P : Program) (ops : Array Oper) (n : Nat) : List Nat → Array Bool → List Tmp → Bool
  | [], _, _ => true
  | m :: ms, l, kn => match ops[m]? with
    | some o => (Region.ready .any ops l).contains m && Region.free .any ops l m && match o.op, o.dst with
      | .move _, some d => steadyB P ops n ms (l.setIfInBounds m true) (kn.filter (fun p => p != d))
      | .fieldAddr s (.tmp p) f, some d => kn.contains p && fieldB P s f && othersB P ops l m && decide (d < n) && steadyB P ops n ms (l.setIfInBounds m true) (d :: kn.filter (fun p => p != d))
      | .load T (.tmp p), some d => kn.contains p && notAggB P T && othersB P ops l m && steadyB P ops n ms (l.setIfInBounds m true) (kn.filter (fun p => p != d))
      | _, _ => false
    | none => false

def Kn (r : Nat) (kn : List Tmp) (a : Act) : Prop := ∀ p ∈ kn, ∃ off, a.eval (.tmp p) = .pointer (some ⟨r, off, none⟩)

theorem Kn.put {r : Nat} {kn : List Tmp} {a : Act} (h : Kn r kn a) (d : Tmp) (v : Value) : Kn r (kn.filter (fun p => p != d)) (a.put (some d) v) := fun p hp => by
  obtain ⟨h1, h2⟩ := List.mem_filter.1 hp
  obtain ⟨off, ho⟩ := h p h1
  refine ⟨off, ?_⟩
  rw [Act.eval_put fun d' hd e => ?_]
  · exact ho
  · cases hd; cases e; simp at h2

theorem Act.eval_self {a : Act} {d : Tmp} {v : Value} (h : d < a.tmps.size) : (a.put (some d) v).eval (.tmp d) = v := by
  simp [Act.put, Act.eval, h]

theorem steadyB_closed {n : Nat} : ∀ (ms : List Nat) (l : Array Bool) (kn : List Tmp), steadyB P ops n ms l kn = true → (∀ j oj, ops[j]? = some oj → l.getD j false = true → ∀ e ∈ oj.after, Region.binds .any e = true → l.getD e.on false = true) →
    ∀ j oj, ops[j]? = some oj → (markL ms l).getD j false = true → ∀ e ∈ oj.after, Region.binds .any e = true → (markL ms l).getD e.on false = true
  | [], _, _, _, h => h
  | m :: ms, l, kn, hb, h => by
    unfold steadyB at hb
    split at hb
    · rename_i om hom
      simp only [Bool.and_eq_true] at hb
      have key : ∀ kn', steadyB P ops n ms (l.setIfInBounds m true) kn' = true → ∀ j oj, ops[j]? = some oj → (markL (m :: ms) l).getD j false = true → ∀ e ∈ oj.after, Region.binds .any e = true → (markL (m :: ms) l).getD e.on false = true := fun kn' hk => by
        refine steadyB_closed ms _ kn' hk fun j oj hj hl e he hbd => ?_
        obtain ⟨_, om', hom', hall⟩ := mem_ready.1 (by simpa using hb.1.1 : m ∈ Region.ready .any ops l)
        by_cases hmj : m = j
        · subst hmj
          have : oj = om' := Option.some.inj (hj.symm.trans hom')
          subst this
          exact getD_set_true (hall e he hbd)
        · rw [getD_set_ne false hmj] at hl
          exact getD_set_true (h j oj hj hl e he hbd)
      have hb2 := hb.2
      split at hb2
      · exact key _ hb2
      · simp only [Bool.and_eq_true] at hb2; exact key _ hb2.2
      · simp only [Bool.and_eq_true] at hb2; exact key _ hb2.2
      · cases hb2
    · cases hb

theorem wpAny_steadies {n : Nat} {r : Nat} {c : Array Value} {T : TypeId} {z : Nat × Nat} (hng : ops.all (fun o => o.guard.isNone) = true) (hsel : ∀ (j : Nat) (o : Oper) cs b, ops[j]? = some o → o.op ≠ .select cs b) {hds : List Nat} {Q : Act → Prop} {w : World} {fuel : Nat} (hJ : w.heap[r]? = some (.cells c T z)) :
    ∀ (ms : List Nat) (l : Array Bool) (kn : List Tmp) (a : Act), steadyB P ops n ms l kn = true → Kn r kn a → a.tmps.size = n → (∀ a', wpStill P ops w Q (opsOf ops hds) a' → wpAny P .any ops (NQ R) fuel (markL ms l) a' w) →
      wpStill P ops w Q (opsOf ops (ms ++ hds)) a → wpAny P .any ops (NQ R) (ms.length + fuel) l a w
  | [], l, kn, a, _, _, _, hk, h => by simpa [markL] using hk a h
  | m :: ms, l, kn, a, hb, hkn, hsz, hk, h => by
    unfold steadyB at hb
    split at hb
    · rename_i om hom
      simp only [Bool.and_eq_true] at hb
      obtain ⟨⟨b2, b3⟩, b4⟩ := hb
      have hmr : m ∈ Region.ready .any ops l := by simpa using b2
      have hmg : om.guard = none := opsOf_ng hng [m] om (by simp [opsOf, hom])
      have hcons : opsOf ops (m :: ms ++ hds) = om :: opsOf ops (ms ++ hds) := by simp [opsOf, hom]
      rw [hcons] at h
      unfold wpStill at h
      rw [if_pos (wanted_ng hmg _)] at h
      have e : (m :: ms).length + fuel = (ms.length + fuel) + 1 := by simp; omega
      rw [e]
      split at b4
      · rename_i x d hop hd
        have hexec : (execOp a.eval om).run P w = .ok (.value (a.eval x)) w := by unfold execOp; rw [hop]; rfl
        unfold Oper.still at h
        rw [hexec, Oper.stillUpon_value] at h
        have := wpAny_steadies hng hsel hJ ms (l.setIfInBounds m true) _ _ b4 (by rw [hd]; exact hkn.put d _) (by rw [put_size]; exact hsz) hk h
        exact wpAny_move hom hop hmg hsel _ _ a _ (Region.free_spec hom b3) hmr this
      · rename_i s p f d hop hd
        simp only [Bool.and_eq_true, decide_eq_true_eq] at b4
        obtain ⟨⟨⟨⟨c1, c2⟩, c3⟩, c5⟩, c4⟩ := b4
        obtain ⟨off, hoff⟩ := hkn p (by simpa using c1)
        obtain ⟨fo, hfo⟩ := fieldB_run c2
        have hval : ∀ (a : Act) (w : World), a.eval (.tmp p) = .pointer (some ⟨r, off, none⟩) → w.heap[r]? = some (.cells c T z) → (execOp a.eval om).run P w = .ok (.value (.pointer (some ⟨r, off + fo, none⟩))) w := fun a w e1 _ => by
          unfold execOp
          simp only [hop, e1, Sem.run_bind, hfo, Result.andThen_ok, Sem.run_pure]
        unfold Oper.still at h
        rw [hval a w hoff hJ, Oper.stillUpon_value] at h
        have := wpAny_steadies hng hsel hJ ms (l.setIfInBounds m true) _ _ c4 (by
          rw [hd]
          intro q hq
          rcases List.mem_cons.1 hq with rfl | hq
          · exact ⟨_, Act.eval_self (by rw [hsz]; exact c5)⟩
          · exact hkn.put d _ q hq) (by rw [put_size]; exact hsz) hk h
        exact wpAny_steady hom (by rw [hop]; simp [Op.operands]) hmg hsel hval _ _ a _ (fun j oj g1 g2 g3 g4 => ⟨Region.free_spec hom b3 j oj g1 g2 g3 g4, othersB_spec c3 j oj g1 g2 g3 g4⟩) hmr hoff hJ this
      · rename_i T1 p d hop hd
        simp only [Bool.and_eq_true] at b4
        obtain ⟨⟨⟨c1, c2⟩, c3⟩, c4⟩ := b4
        obtain ⟨off, hoff⟩ := hkn p (by simpa using c1)
        have hrun : ∀ (a : Act) (w : World), a.eval (.tmp p) = .pointer (some ⟨r, off, none⟩) → w.heap[r]? = some (.cells c T z) → (execOp a.eval om).run P w = match c[off]? with | some u => .ok (.value u) w | none => .halt (w.noCell ⟨r, off, none⟩ "load: no such cell") w := fun a w e1 e2 => by
          unfold execOp
          simp only [hop, e1, Sem.run_bind, notAggB_run c2 e2]
          cases c[off]? <;> simp [Sem.run_pure, Result.andThen]
        cases hc : c[off]? with
        | none =>
          unfold Oper.still at h
          rw [hrun a w hoff hJ, hc] at h
          exact absurd h (by simp [Oper.stillUpon])
        | some u =>
          have hval : ∀ (a : Act) (w : World), a.eval (.tmp p) = .pointer (some ⟨r, off, none⟩) → w.heap[r]? = some (.cells c T z) → (execOp a.eval om).run P w = .ok (.value u) w := fun a w e1 e2 => by rw [hrun a w e1 e2, hc]
          unfold Oper.still at h
          rw [hval a w hoff hJ, Oper.stillUpon_value] at h
          have := wpAny_steadies hng hsel hJ ms (l.setIfInBounds m true) _ _ c4 (by rw [hd]; exact hkn.put d _) (by rw [put_size]; exact hsz) hk h
          exact wpAny_steady hom (by rw [hop]; simp [Op.operands]) hmg hsel hval _ _ a _ (fun j oj g1 g2 g3 g4 => ⟨Region.free_spec hom b3 j oj g1 g2 g3 g4, othersB_spec c3 j oj g1 g2 g3 g4⟩) hmr hoff hJ this
      · cases b4
    · cases hb
end
section
variable {P : Program} {pu : Bool} {st : St} {ops : Array Oper}

def permSB (P : Program) (ops : Array Oper) (n s0 : Nat) (ms hds : List Nat) (t0 : Nat) (ts : List Nat) : Bool :=
  Region.noSelect ops && ops.all (fun o => o.guard.isNone) && steadyB P ops n ms (Array.replicate ops.size false) [s0] &&
    sinkH .any ops hds t0 && chainH .any ops t0 ts && hds.all (fun i => !(t0 :: ts).contains i) && ms.all (fun i => !(t0 :: ts).contains i) && decide (ops.size = ms.length + (hds.length + (ts.length + 1))) &&
    (List.range ops.size).all (fun i => hds.contains i || (t0 :: ts).contains i || ms.contains i) && (t0 :: ts).all (fun i => decide (i < ops.size)) && decide ((opsOf ops (ms ++ hds)).length = ms.length + hds.length) &&
    lexHeadH .any ops (t0 :: ts) hds (markL ms (Array.replicate ops.size false))

theorem SW.regionS {id : Nat} {l : List Oper} {Q : Exit → St → Prop} (n s0 : Nat) (ms hds : List Nat) (t0 : Nat) (ts : List Nat) (k : Nat) (hk : decide (k = ms.length + hds.length) = true) (hm : P.follows .mixedOrders = true) (hb : ((boxAt st s0).isSome && decide (st.tmps.length = n)) = true) (hB : permSB P l.toArray n s0 ms hds t0 ts = true)
    (h : OBk P (permML l.toArray ms hds t0 ts) k 0 st (fun st1 => OWk P pu (permML l.toArray ms hds t0 ts) k st1 (Q .normal))) : SW P pu (.region id l.toArray true) st Q := by
  have hk := of_decide_eq_true hk
  subst hk
  generalize hops : l.toArray = ops at *
  intro a w g hr
  refine Code.wp_mono (Q := NQ fun a' w' => ∃ st' g', Q .normal st' ∧ Rel st' a' w' g' ∧ Fr pu g w g' w') (fun e a' w' hh => by obtain ⟨rfl, hh⟩ := hh; exact hh) ?_
  simp only [permSB, Bool.and_eq_true, decide_eq_true_eq] at hB
  obtain ⟨⟨⟨⟨⟨⟨⟨⟨⟨⟨⟨b1, b2⟩, b3⟩, b6⟩, b7⟩, b8⟩, b9⟩, b10⟩, b11⟩, b12⟩, b13⟩, b14⟩ := hB
  refine wp_region_any hm ?_
  simp only [Bool.and_eq_true, decide_eq_true_eq] at hb
  obtain ⟨hb1, hb2⟩ := hb
  obtain ⟨cs, hcs⟩ : ∃ cs, st.tmps[s0]? = some (.box cs) := by
    unfold boxAt at hb1
    split at hb1
    · exact ⟨_, by assumption⟩
    · cases hb1
  obtain ⟨r, c, T, hv, hg0, hcell, _⟩ := hr.drew.tmp s0 _ hcs
  have hms : ∀ i ∈ ms, i ∉ t0 :: ts := fun i hi => by have := List.all_eq_true.1 b9 i hi; simpa using this
  have inv : HInv .any ops hds t0 ts (markL ms (Array.replicate ops.size false)) := by
    refine ⟨by rw [markL_size]; simp, steadyB_closed ms _ _ b3 (fun j oj hj hl => by rw [getD_replicate_false] at hl; cases hl), fun t ht => ?_, fun i hi h1 h2 => ?_⟩
    · rw [markL_not ms _ t (fun h => hms t h ht)]
      have := List.all_eq_true.1 b12 t ht
      simp at this
      simp [this]
    · have := List.all_eq_true.1 b11 i (List.mem_range.2 hi)
      simp only [Bool.or_eq_true, List.contains_iff_mem] at this
      rcases this with (h3 | h3) | h3
      · exact absurd h3 h1
      · exact absurd h3 h2
      · exact markL_mem ms _ i h3 (by simpa using hi)
  have hl1 : (permML ops ms hds t0 ts).toList.take (ms.length + hds.length) = opsOf ops (ms ++ hds) := by simp only [permML]; rw [List.take_append_of_le_length (by omega), List.take_of_length_le (by omega)]
  have hl2 : (permML ops ms hds t0 ts).toList.drop (ms.length + hds.length) = opsOf ops (t0 :: ts) := by simp only [permML]; rw [← b13, List.drop_left']; rfl
  unfold OBk at h
  rw [List.drop_zero, hl1] at h
  have key := h a w.drew g hr.drew (fun a' => wpList P ops (NQ fun a' w' => ∃ st' g', Q .normal st' ∧ Rel st' a' w' g' ∧ Fr pu g w g' w') (opsOf ops (t0 :: ts)) a' w.drew) (fun st1 a1 g1 q1 r1 f1 => by
    refine wpList_ng (opsOf_ng b2 _) (ops' := permML ops ms hds t0 ts) ?_
    unfold OWk at q1
    rw [hl2] at q1
    exact q1 a1 w.drew g1 r1 _ fun st' a' w' g' q r f => ⟨rfl, st', g', q, r, (Fr.drew.trans (f1 pu)).trans f⟩)
  have key := wpStill_ng (ops := ops) (opsOf_ng b2 (ms ++ hds)) key
  have hsz : ops.size = ms.length + (hds.length + (ts.length + 1)) := b10
  rw [hsz]
  rw [hsz] at inv b14
  refine wpAny_steadies (n := n) b2 (Region.noSelect_spec b1) hcell ms _ [s0] a (by rw [← hsz]; exact b3) (fun p hp => ?_) (by rw [hr.len, hb2]) (fun a' ha' => ?_) key
  · rcases List.mem_cons.1 hp with rfl | hp
    · exact ⟨0, hv⟩
    · cases hp
  · refine wpAny_of_headH (hds := hds) (g := ts.length + 1) (fun listed' a' hL => ?_) hds.length _ _ (wpAnyH_lex b1 b6 b7 (fun i hi => by have := List.all_eq_true.1 b8 i hi; simpa using this) hds _ _ (fun _ h => h) inv b14 ha')
    exact wpAny_of_seqH (t0 :: ts) listed' a' _ hL.1 hL.2
end
end Go.Sh
set_option linter.unusedVariables false
set_option linter.unusedSimpArgs false
namespace Go.Sh

section
variable {P : Program} {pu : Bool} {st : St} {ops : Array Oper}

theorem upon_NQ {o : Oper} {a : Act} {next : Act → World → Prop} {R R' : Act → World → Prop} {r : Result Next} (h : o.upon P a next (NQ R) r) : o.upon P a next (NQ R') r := by
  cases r with
  | ok n w' =>
    cases n <;> simp only [Oper.upon] at h ⊢ <;> first
      | exact h
      | (refine h.mono fun e w'' hh => ?_
         cases e with
         | returned v => exact hh
         | panicked ch => cases hh.1
         | outgrown => exact absurd hh NQ.out)
  | halt hh w' => cases hh <;> simp only [Oper.upon] at h ⊢ <;> first | exact h | cases h.1

/-- The operations of a set (by its number's bits). -/
def lstM (n m : Nat) : Array Bool := ((List.range n).map (fun i => m.testBit i)).toArray

theorem lstM_size (n m : Nat) : (lstM n m).size = n := by simp [lstM]
theorem lstM_set (n m i : Nat) : (lstM n m).setIfInBounds i true = lstM n (m ||| 2 ^ i) := by
  apply Array.ext_getElem?
  intro j
  simp only [lstM, Array.getElem?_setIfInBounds]
  by_cases hj : j < n
  · by_cases e : i = j
    · subst e; simp [hj, Nat.testBit_or]
    · simp [e, hj, Nat.testBit_or, Nat.testBit_two_pow]
  · simp [hj]; omega
theorem lstM_zero (n : Nat) : lstM n 0 = Array.replicate n false := by
  apply Array.ext_getElem?
  intro j
  by_cases hj : j < n
  · simp [lstM, hj]
  · simp [lstM, hj]

/-- One operation alone. -/
def oneA (ops : Array Oper) (i : Nat) : Array Oper := match ops[i]? with
  | some o => #[o]
  | none => #[]

/-- From here (m: what is done; so many are left) every way ends in st'. -/
def OX (P : Program) (pu : Bool) (ops : Array Oper) (d m : Nat) (st st' : St) : Prop :=
  ∀ a w g, Rel st a w g → ∀ R : Act → World → Prop, (∀ a' w' g', Rel st' a' w' g' → Fr pu g w g' w' → R a' w') → wpAny P .any ops (NQ R) d (lstM ops.size m) a w

def AllI : List Nat → (Nat → Prop) → Prop
  | [], _ => True
  | i :: r, p => p i ∧ AllI r p

theorem AllI_mem {p : Nat → Prop} : ∀ {l : List Nat}, AllI l p → ∀ i ∈ l, p i
  | i :: r, h, j, hj => by
    rcases List.mem_cons.1 hj with rfl | hj
    · exact h.1
    · exact AllI_mem h.2 j hj

theorem OX.fin {m : Nat} (h : Region.ready .any ops (lstM ops.size m) = []) : OX P pu ops 0 m st st :=
  fun a w g hr R hR => ⟨h, rfl, hR a w g hr (Fr.refl _ _ _)⟩

theorem OX.step {d m i0 : Nat} {is : List Nat} {st' : St} (hg : ops.all (fun o => o.guard.isNone) = true) (h : Region.ready .any ops (lstM ops.size m) = i0 :: is)
    (hs : AllI (i0 :: is) (fun i => OWk P pu (oneA ops i) 0 st (fun s => OX P pu ops d (m ||| 2 ^ i) s st'))) : OX P pu ops (d + 1) m st st' := by
  intro a w g hr R hR
  unfold wpAny
  rw [h]
  refine ⟨fun e => (List.cons_ne_nil _ _ e).elim, fun i hi => ?_⟩
  have hi' : i ∈ Region.ready .any ops (lstM ops.size m) := by rw [h]; exact hi
  obtain ⟨_, o, ho, _⟩ := mem_ready.1 hi'
  have h1 := AllI_mem hs i hi
  have hog : o.guard = none := opsOf_ng hg [i] o (by simp [opsOf, ho])
  simp only [oneA, ho] at h1
  unfold OWk at h1
  rw [List.drop_zero] at h1
  have h2 := h1 a w g hr (NQ (wpAny P .any ops (NQ R) d (lstM ops.size (m ||| 2 ^ i)))) (fun st1 a1 w1 g1 q1 r1 f1 => ⟨rfl, q1 a1 w1 g1 r1 R fun a' w' g' r2 f2 => hR a' w' g' r2 (f1.trans f2)⟩)
  unfold wpOp
  rw [ho]
  simp only
  rw [if_pos (wanted_ng hog _)]
  unfold wpList at h2
  rw [if_pos (wanted_ng hog _)] at h2
  rcases h2 with h2 | h2
  · left
    rw [lstM_set]
    have h3 := Oper.wp_mono (K' := wpAny P .any ops (NQ R) d (lstM ops.size (m ||| 2 ^ i))) (fun a' w' hh => (show NQ (wpAny P .any ops (NQ R) d (lstM ops.size (m ||| 2 ^ i))) .normal a' w' from hh).2) h2
    exact upon_NQ h3
  · exact absurd h2.2 NQ.out

theorem SW.regionX {id : Nat} {l : List Oper} {Q : Exit → St → Prop} {st' : St} (hm : P.follows .mixedOrders = true) (h : OX P pu l.toArray l.length 0 st st') (hq : Q .normal st') : SW P pu (.region id l.toArray true) st Q := by
  intro a w g hr
  refine Code.wp_mono (Q := NQ fun a' w' => ∃ st' g', Q .normal st' ∧ Rel st' a' w' g' ∧ Fr pu g w g' w') (fun e a' w' hh => by obtain ⟨rfl, hh⟩ := hh; exact hh) ?_
  refine wp_region_any hm ?_
  have := h a w.drew g hr.drew (fun a' w' => ∃ st' g', Q .normal st' ∧ Rel st' a' w' g' ∧ Fr pu g w g' w') (fun a' w' g' r f => ⟨st', g', hq, r, Fr.drew.trans f⟩)
  rw [lstM_zero] at this
  simpa using this
end
end Go.Sh
namespace Go.Sh
theorem SW.regX {P : Program} {pu : Bool} {st : St} {id : Nat} {l : List Oper} {Q : Exit → St → Prop} (n : Nat) (H : List SObj) (ll : List (Nat × SV)) (hm : P.follows .mixedOrders = true)
    (h : ∀ X : Nat → Nat → St → Prop, (X = fun d m s => OX P pu l.toArray d m s (sp n ll H)) → X l.length 0 st) (hq : Q .normal (sp n ll H)) : SW P pu (.region id l.toArray true) st Q :=
  SW.regionX hm (h _ rfl) hq
end Go.Sh
