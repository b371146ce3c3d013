/- The program's Wrong tells what is right, too: its maps hold what each unit did. -/
import Derived.Test.YtjkhgfoecplbgaaW3
set_option linter.all false
set_option autoImplicit true
set_option relaxedAutoImplicit true
set_option linter.unusedVariables false
set_option linter.unusedSimpArgs false
namespace Go.Sh

section
variable {K V : Type} [BEq K] [LawfulBEq K] [DecidableEq K]
set_option linter.unusedSectionVars false

theorem lookup_mPut (x : K) (y : V) (k : K) : ∀ es : List (K × V), (mPut x y es).lookup k = if k = x then some y else es.lookup k
  | [] => by
    simp only [mPut, List.lookup]
    by_cases h : k = x
    · subst h; simp
    · have : (k == x) = false := by simpa using h
      simp [h, this]
  | (a, b) :: es => by
    unfold mPut
    by_cases h : x = a
    · subst h
      rw [if_pos (by simp)]
      simp only [List.lookup]
      by_cases h2 : k = x
      · subst h2; simp
      · have : (k == x) = false := by simpa using h2
        simp [h2, this]
    · have hx : (x == a) = false := by simpa using h
      rw [hx]
      simp only [List.lookup, Bool.false_eq_true, if_false]
      by_cases h2 : k = a
      · subst h2
        have : k ≠ x := fun e => h e.symm
        simp [this]
      · have : (k == a) = false := by simpa using h2
        simp only [this]
        exact lookup_mPut x y k es

theorem mem_keys {es : List (K × V)} {k : K} : k ∈ es.map Prod.fst ↔ ∃ v, es.lookup k = some v := by
  induction es with
  | nil => simp
  | cons e es ih =>
    obtain ⟨a, b⟩ := e
    simp only [List.map_cons, List.mem_cons, List.lookup]
    by_cases h : k = a
    · subst h; simp
    · have : (k == a) = false := by simpa using h
      simp [h, this, ih]

theorem keys_mPut (x : K) (y : V) (es : List (K × V)) (k : K) : k ∈ (mPut x y es).map Prod.fst ↔ k = x ∨ k ∈ es.map Prod.fst := by
  rw [mem_keys, mem_keys, lookup_mPut]
  by_cases h : k = x
  · simp [h]
  · simp [h]

theorem nodup_mPut (x : K) (y : V) : ∀ es : List (K × V), (es.map Prod.fst).Nodup → ((mPut x y es).map Prod.fst).Nodup
  | [], _ => by simp [mPut]
  | (a, b) :: es, h => by
    unfold mPut
    rw [List.map_cons, List.nodup_cons] at h
    by_cases hx : x = a
    · subst hx
      rw [if_pos (by simp)]
      rw [List.map_cons, List.nodup_cons]
      exact h
    · have : (x == a) = false := by simpa using hx
      rw [this]
      simp only [Bool.false_eq_true, if_false]
      rw [List.map_cons, List.nodup_cons]
      refine ⟨fun hm => ?_, nodup_mPut x y es h.2⟩
      rcases (keys_mPut x y es a).1 hm with e | e
      · exact hx e.symm
      · exact h.1 e

theorem mem_mPut (x : K) (y : V) {q : K × V} : ∀ es : List (K × V), q ∈ mPut x y es → q = (x, y) ∨ q ∈ es
  | [], h => by simpa [mPut] using h
  | (a, b) :: es, h => by
    unfold mPut at h
    split at h
    · rcases List.mem_cons.1 h with h | h
      · exact .inl h
      · exact .inr (List.mem_cons_of_mem _ h)
    · rcases List.mem_cons.1 h with h | h
      · exact .inr (by rw [h]; exact List.mem_cons_self)
      · rcases mem_mPut x y es h with h | h
        · exact .inl h
        · exact .inr (List.mem_cons_of_mem _ h)

theorem mDel_filter (x : K) : ∀ es : List (K × V), (es.map Prod.fst).Nodup → mDel x es = es.filter (fun e => !(e.1 == x))
  | [], _ => rfl
  | (a, b) :: es, h => by
    rw [List.map_cons, List.nodup_cons] at h
    unfold mDel
    by_cases hx : x = a
    · subst hx
      rw [if_pos (by simp), List.filter_cons]
      simp only [BEq.rfl, Bool.not_true, Bool.false_eq_true, if_false]
      symm
      rw [List.filter_eq_self]
      intro e he
      have : e.1 ≠ x := fun hx' => h.1 (List.mem_map.2 ⟨e, he, hx'⟩)
      simpa using this
    · have h1 : (x == a) = false := by simpa using hx
      have h2 : (a == x) = false := by simpa using fun e => hx e.symm
      rw [h1]
      simp only [Bool.false_eq_true, if_false, List.filter_cons, h2, Bool.not_false, if_true]
      rw [mDel_filter x es h.2]

theorem nodup_filter {es : List (K × V)} (q : K × V → Bool) (h : (es.map Prod.fst).Nodup) : ((es.filter q).map Prod.fst).Nodup := h.sublist (List.Sublist.map _ (List.filter_sublist))

theorem lookup_filter (q : K → Bool) (k : K) : ∀ es : List (K × V), (es.filter (fun e => q e.1)).lookup k = if q k then es.lookup k else none
  | [] => by simp
  | (a, b) :: es => by
    rw [List.filter_cons]
    by_cases h : k = a
    · subst h
      cases hq : q k
      · simp [hq, lookup_filter q k es]
      · simp [hq, List.lookup]
    · have h1 : (k == a) = false := by simpa using h
      cases hq : q a
      · simp [hq, lookup_filter q k es, List.lookup, h1]
      · simp [hq, lookup_filter q k es, List.lookup, h1]
end

structure GU where
  i : Nat
  j : Nat
  from' : Int
  ks : List (List UInt8 × Bool)

def encOn (on : List (Int × Option Nat)) : SObj := .map (on.map (encE (kI .i64) cP))
def encOf (of : List (List UInt8 × Int)) : SObj := .map (of.map (encE kS (cI .i64)))
def encKs (ks : List (List UInt8 × Bool)) : SObj := .map (ks.map (encE kS cB))
def encG (f : Int) (j : Nat) : SObj := .cells [.d (.int .i64 f), .d (.map j)]

def segOk : Option GU → Option (List (List UInt8 × Int)) → Prop
  | none, none => True
  | some x, some sg => (∀ k, k ∈ x.ks.map Prod.fst ↔ (k, (2 : Int)) ∈ sg) ∧ ∀ k, (k, (3 : Int)) ∈ sg → (k, (2 : Int)) ∈ sg
  | _, _ => False

structure WInv (H : Hp) (p : List Note) (on : List (Int × Option Nat)) (of : List (List UInt8 × Int)) (g : Int → Option GU) : Prop where
  h0 : H[0]? = some (encOn on)
  h1 : H[1]? = some (encOf of)
  hon : ∀ u, on.lookup u = (g u).map (fun x => some x.i)
  non : (on.map Prod.fst).Nodup
  nof : (of.map Prod.fst).Nodup
  hof : ∀ k u, of.lookup k = some u ↔ ∃ x, g u = some x ∧ k ∈ x.ks.map Prod.fst
  hg : ∀ u x, g u = some x → H[x.i]? = some (encG x.from' x.j) ∧ H[x.j]? = some (encKs x.ks) ∧ 2 ≤ x.i ∧ 2 ≤ x.j ∧ (∀ q ∈ x.ks, q.2 = true) ∧ (x.ks.map Prod.fst).Nodup
  dis : ∀ u u' x x', g u = some x → g u' = some x' → u ≠ u' → x.i ≠ x'.i ∧ x.j ≠ x'.j
  sg : ∀ u, segOk (g u) (seg p u)

theorem hMap_on {H : Hp} {i : Nat} {on : List (Int × Option Nat)} (h : H[i]? = some (encOn on)) : hMap (kI .i64) cP H (some i) = some on := hMap_eq.2 h
theorem hMap_of {H : Hp} {i : Nat} {of : List (List UInt8 × Int)} (h : H[i]? = some (encOf of)) : hMap kS (cI .i64) H (some i) = some of := hMap_eq.2 h
theorem hMap_ks {H : Hp} {i : Nat} {ks : List (List UInt8 × Bool)} (h : H[i]? = some (encKs ks)) : hMap kS cB H (some i) = some ks := hMap_eq.2 h

theorem hGet_j {H : Hp} {i j : Nat} {f : Int} (h : H[i]? = some (encG f j)) : hGet cM.cell H i 1 = some (some j) := by
  unfold hGet hCells
  rw [h]
  rfl

theorem hSet_f {H : Hp} {i j : Nat} {f f' : Int} (h : H[i]? = some (encG f j)) : hSet (cI .i64) H i 0 f' = some (H.set i (encG f' j)) := by
  unfold hSet hPut hCells
  rw [h]
  rfl

theorem hSet_j {H : Hp} {i j j' : Nat} {f : Int} (h : H[i]? = some (encG f j)) : hSet cM H i 1 (some j') = some (H.set i (encG f j')) := by
  unfold hSet hPut hCells
  rw [h]
  rfl

theorem seg_other (u : Int) : ∀ (p : List Note) (s : Option (List (List UInt8 × Int))), (∀ m ∈ p, ¬ (m.Unit = u ∧ m.Kind ≠ 6)) → p.foldl (segS u) s = s
  | [], s, _ => rfl
  | m :: p, s, h => by
    rw [List.foldl_cons]
    have : segS u s m = s := by
      unfold segS
      rw [if_pos]
      have := h m List.mem_cons_self
      by_cases h1 : m.Unit = u
      · by_cases h2 : m.Kind = 6
        · exact .inr h2
        · exact absurd ⟨h1, h2⟩ this
      · exact .inl h1
    rw [this]
    exact seg_other u p s fun m' hm => h m' (List.mem_cons_of_mem _ hm)

theorem seg_mem {p : List Note} {u : Int} {sg : List (List UInt8 × Int)} (h : seg p u = some sg) : ∃ m ∈ p, m.Unit = u ∧ m.Kind ≠ 6 := by
  refine Classical.byContradiction fun hn => ?_
  have := seg_other u p none fun m hm hc => hn ⟨m, hm, hc⟩
  unfold seg at h
  rw [this] at h
  cases h

theorem WInv.some_iff {H p on of g} (hi : WInv H p on of g) (u : Int) : (on.lookup u).isSome = (seg p u).isSome := by
  have := hi.sg u
  rw [hi.hon]
  cases h1 : g u <;> cases h2 : seg p u <;> rw [h1, h2] at this <;> simp [segOk] at this ⊢

/-- The keys that a unit holds. -/
theorem WInv.tch2 {H p on of g} (hi : WInv H p on of g) {u : Int} {x : GU} (hx : g u = some x) (k : List UInt8) : tch p u k 2 = (x.ks.lookup k).isSome := by
  have := hi.sg u
  rw [hx] at this
  unfold tch
  cases h2 : seg p u with
  | none => rw [h2] at this; exact this.elim
  | some sg =>
    rw [h2] at this
    obtain ⟨t1, t2⟩ := this
    rw [Bool.eq_iff_iff]
    rw [List.any_eq_true]
    have hk := t1 k
    rw [mem_keys] at hk
    constructor
    · rintro ⟨⟨a, b⟩, hm, hh⟩
      simp only [hit, Bool.and_eq_true, Bool.or_eq_true, beq_iff_eq] at hh
      obtain ⟨⟨rfl, _⟩, h3⟩ := hh
      have : b = 2 := by rcases h3 with h3 | h3 <;> simp_all
      subst this
      obtain ⟨v, hv⟩ := hk.2 hm
      rw [hv]; rfl
    · intro h
      obtain ⟨v, hv⟩ := Option.isSome_iff_exists.1 h
      exact ⟨(k, 2), hk.1 ⟨v, hv⟩, by simp [hit]⟩

theorem WInv.dup {H p on of g} (hi : WInv H p on of g) (n : Note) : Go.Sh.dup p n = ((of.lookup n.Key).isSome && ((of.lookup n.Key).getD 0 != n.Unit)) := by
  rw [Bool.eq_iff_iff]
  unfold Go.Sh.dup
  rw [List.any_eq_true]
  constructor
  · rintro ⟨m, hm, hh⟩
    simp only [Bool.and_eq_true, bne_iff_ne, ne_eq] at hh
    obtain ⟨⟨h1, h2⟩, h3⟩ := hh
    have := hi.sg m.Unit
    unfold tch at h3
    cases hs : seg p m.Unit with
    | none => rw [hs] at h3; cases h3
    | some sg =>
      rw [hs] at h3 this
      cases hg : g m.Unit with
      | none => rw [hg] at this; exact this.elim
      | some x =>
        rw [hg] at this
        obtain ⟨t1, t2⟩ := this
        obtain ⟨⟨a, b⟩, q1, q2⟩ := List.any_eq_true.1 h3
        simp only [hit, Bool.and_eq_true, Bool.or_eq_true, beq_iff_eq] at q2
        obtain ⟨⟨rfl, q3⟩, _⟩ := q2
        have : (n.Key, (2 : Int)) ∈ sg := by
          rcases q3 with rfl | rfl
          · exact q1
          · exact t2 _ q1
        have := (hi.hof n.Key m.Unit).2 ⟨x, hg, (t1 _).2 this⟩
        rw [this]
        simpa using h1
  · intro h
    simp only [Bool.and_eq_true, bne_iff_ne, ne_eq] at h
    obtain ⟨h1, h2⟩ := h
    obtain ⟨u, hu⟩ := Option.isSome_iff_exists.1 h1
    rw [hu] at h2
    simp only [Option.getD_some] at h2
    obtain ⟨x, hx, hk⟩ := (hi.hof _ _).1 hu
    have := hi.sg u
    rw [hx] at this
    cases hs : seg p u with
    | none => rw [hs] at this; exact this.elim
    | some sg =>
      rw [hs] at this
      obtain ⟨m, hm, rfl, hk6⟩ := seg_mem hs
      refine ⟨m, hm, ?_⟩
      simp only [Bool.and_eq_true, bne_iff_ne, ne_eq]
      refine ⟨⟨h2, hk6⟩, ?_⟩
      unfold tch
      rw [hs]
      exact List.any_eq_true.2 ⟨(n.Key, 2), (this.1 _).1 hk, by simp [hit]⟩

theorem segS_other {u : Int} {s : Option (List (List UInt8 × Int))} {n : Note} (h : n.Unit ≠ u) : segS u s n = s := by unfold segS; rw [if_pos (.inl h)]

/-- Nothing of the maps changes: a note of another kind. -/
theorem WInv.pass {H p on of g} (hi : WInv H p on of g) (n : Note) (h : n.Kind ≠ 1 ∧ n.Kind ≠ 2 ∧ n.Kind ≠ 3 ∧ n.Kind ≠ 4 ∧ n.Kind ≠ 5 ∧ n.Kind ≠ 7) : WInv H (p ++ [n]) on of g := by
  refine { hi with sg := fun u => ?_ }
  have := hi.sg u
  rw [seg_snoc]
  unfold segS
  split
  · exact this
  · rw [if_neg (by omega), if_neg (by omega)]
    cases h1 : g u <;> cases h2 : seg p u <;> rw [h1, h2] at this <;> simp only [segOk, Option.map_none, Option.map_some] at this ⊢
    obtain ⟨t1, t2⟩ := this
    refine ⟨fun k => ?_, fun k hk => ?_⟩
    · rw [t1 k, List.mem_append]
      constructor
      · exact .inl
      · rintro (h | h)
        · exact h
        · simp only [List.mem_singleton, Prod.mk.injEq] at h
          omega
    · rw [List.mem_append] at hk ⊢
      rcases hk with hk | hk
      · exact .inl (t2 k hk)
      · simp only [List.mem_singleton, Prod.mk.injEq] at hk
        omega

theorem get_lt' {α : Type} {l : List α} {i : Nat} {x : α} (h : l[i]? = some x) : i < l.length := (List.getElem?_eq_some_iff.1 h).1

def upd (g : Int → Option GU) (u : Int) (x : Option GU) : Int → Option GU := fun v => if v = u then x else g v

theorem WInv.begin {H p on of g} (hi : WInv H p on of g) (n : Note) (f : Int) (hk : n.Kind = 1) (hn : g n.Unit = none) :
    WInv ((H ++ [encKs []] ++ [encG f H.length]).set 0 (encOn (mPut n.Unit (some (H.length + 1)) on))) (p ++ [n]) (mPut n.Unit (some (H.length + 1)) on) of (upd g n.Unit (some ⟨H.length + 1, H.length, f, []⟩)) := by
  have l0 := get_lt' hi.h0
  have l1 := get_lt' hi.h1
  have old : ∀ i, 1 ≤ i → i < H.length → ((H ++ [encKs []] ++ [encG f H.length]).set 0 (encOn (mPut n.Unit (some (H.length + 1)) on)))[i]? = H[i]? := fun i h1 h2 => by
    rw [List.getElem?_set_ne (by omega), List.append_assoc, List.getElem?_append_left h2]
  have new0 : ((H ++ [encKs []] ++ [encG f H.length]).set 0 (encOn (mPut n.Unit (some (H.length + 1)) on)))[H.length]? = some (encKs []) := by
    rw [List.getElem?_set_ne (by omega), List.append_assoc, List.getElem?_append_right (by omega)]
    simp
  have new1 : ((H ++ [encKs []] ++ [encG f H.length]).set 0 (encOn (mPut n.Unit (some (H.length + 1)) on)))[H.length + 1]? = some (encG f H.length) := by
    rw [List.getElem?_set_ne (by omega), List.getElem?_append_right (by simp)]
    simp
  constructor
  · rw [List.getElem?_set_self (by simp)]
  · rw [old 1 (by omega) l1]; exact hi.h1
  · intro u
    rw [lookup_mPut, upd]
    split
    · rfl
    · exact hi.hon u
  · exact nodup_mPut _ _ _ hi.non
  · exact hi.nof
  · intro k u
    rw [hi.hof k u]
    unfold upd
    by_cases h : u = n.Unit
    · subst h
      rw [if_pos rfl, hn]
      simp
    · rw [if_neg h]
  · intro u x hx
    unfold upd at hx
    split at hx
    · cases hx
      exact ⟨new1, new0, by show 2 ≤ H.length + 1; omega, by show 2 ≤ H.length; omega, by simp, by simp⟩
    · obtain ⟨a1, a2, a3, a4, a5, a6⟩ := hi.hg u x hx
      exact ⟨by rw [old _ (by omega) (get_lt' a1)]; exact a1, by rw [old _ (by omega) (get_lt' a2)]; exact a2, a3, a4, a5, a6⟩
  · intro u u' x x' hx hx' hne
    unfold upd at hx hx'
    split at hx <;> split at hx'
    · omega
    · cases hx
      obtain ⟨a1, a2, _⟩ := hi.hg u' x' hx'
      have := get_lt' a1
      have := get_lt' a2
      exact ⟨by show H.length + 1 ≠ x'.i; omega, by show H.length ≠ x'.j; omega⟩
    · cases hx'
      obtain ⟨a1, a2, _⟩ := hi.hg u x hx
      have := get_lt' a1
      have := get_lt' a2
      exact ⟨by show x.i ≠ H.length + 1; omega, by show x.j ≠ H.length; omega⟩
    · exact hi.dis u u' x x' hx hx' hne
  · intro u
    rw [seg_snoc]
    unfold upd
    by_cases h : u = n.Unit
    · subst h
      rw [if_pos rfl]
      unfold segS
      rw [if_neg (by simp [hk]), if_pos (.inl hk)]
      simp [segOk]
    · rw [if_neg h, segS_other (fun e => h e.symm)]
      exact hi.sg u

theorem WInv.key {H p on of g} (hi : WInv H p on of g) (n : Note) {x : GU} (hk : n.Kind = 2 ∨ n.Kind = 3) (hx : g n.Unit = some x) (hof : ∀ u, of.lookup n.Key = some u → u = n.Unit) (h3 : n.Kind = 3 → n.Key ∈ x.ks.map Prod.fst) :
    WInv ((H.set x.j (encKs (mPut n.Key true x.ks))).set 1 (encOf (mPut n.Key n.Unit of))) (p ++ [n]) on (mPut n.Key n.Unit of) (upd g n.Unit (some { x with ks := mPut n.Key true x.ks })) := by
  have l0 := get_lt' hi.h0
  have l1 := get_lt' hi.h1
  obtain ⟨g1, g2, g3, g4, g5, g6⟩ := hi.hg _ x hx
  have old : ∀ i, i ≠ 1 → i ≠ x.j → ((H.set x.j (encKs (mPut n.Key true x.ks))).set 1 (encOf (mPut n.Key n.Unit of)))[i]? = H[i]? := fun i h1 h2 => by
    rw [List.getElem?_set_ne (by omega), List.getElem?_set_ne (by omega)]
  have ij : ∀ u y, g u = some y → y.i ≠ x.j := fun u y hy e => by
    obtain ⟨a1, _⟩ := hi.hg u y hy
    rw [e, g2] at a1
    cases a1
  constructor
  · rw [old 0 (by omega) (by omega)]; exact hi.h0
  · rw [List.getElem?_set_self (by simpa using l1)]
  · intro u
    rw [hi.hon u, upd]
    split
    · rename_i e; subst e; rw [hx]; rfl
    · rfl
  · exact hi.non
  · exact nodup_mPut _ _ _ hi.nof
  · intro k u
    rw [lookup_mPut]
    unfold upd
    by_cases hkk : k = n.Key
    · subst hkk
      rw [if_pos rfl]
      by_cases h : u = n.Unit
      · subst h
        rw [if_pos rfl]
        exact ⟨fun _ => ⟨_, rfl, (keys_mPut _ _ _ _).2 (.inl rfl)⟩, fun _ => rfl⟩
      · rw [if_neg h]
        constructor
        · intro e; cases e; exact absurd rfl h
        · intro e
          exact absurd (hof u ((hi.hof _ _).2 e)) h
    · rw [if_neg hkk, hi.hof k u]
      by_cases h : u = n.Unit
      · subst h
        rw [if_pos rfl, hx]
        simp only [Option.some.injEq, exists_eq_left', keys_mPut, hkk, false_or]
      · rw [if_neg h]
  · intro u y hy
    unfold upd at hy
    split at hy
    · cases hy
      refine ⟨?_, ?_, g3, g4, fun q hq => ?_, nodup_mPut _ _ _ g6⟩
      · show _[x.i]? = _
        rw [old _ (by omega) (ij _ x hx)]; exact g1
      · show _[x.j]? = _
        rw [List.getElem?_set_ne (by omega), List.getElem?_set_self (get_lt' g2)]
      · rcases mem_mPut _ _ _ hq with rfl | hq
        · rfl
        · exact g5 q hq
    · rename_i hne
      obtain ⟨a1, a2, a3, a4, a5, a6⟩ := hi.hg u y hy
      have hd := hi.dis u n.Unit y x hy hx hne
      exact ⟨by rw [old _ (by omega) (ij u y hy)]; exact a1, by rw [old _ (by omega) hd.2]; exact a2, a3, a4, a5, a6⟩
  · intro u u' y y' hy hy' hne
    unfold upd at hy hy'
    split at hy <;> split at hy'
    · omega
    · cases hy; rename_i e _; exact hi.dis n.Unit u' x y' hx hy' (by omega)
    · cases hy'; rename_i _ e; exact hi.dis u n.Unit y x hy hx (by omega)
    · exact hi.dis u u' y y' hy hy' hne
  · intro u
    rw [seg_snoc]
    unfold upd
    by_cases h : u = n.Unit
    · subst h
      rw [if_pos rfl]
      unfold segS
      rw [if_neg (by omega), if_neg (by omega), if_neg (by omega)]
      have := hi.sg n.Unit
      rw [hx] at this
      cases hs : seg p n.Unit with
      | none => rw [hs] at this; exact this.elim
      | some sg =>
        rw [hs] at this
        obtain ⟨t1, t2⟩ := this
        have hin : n.Kind = 3 → (n.Key, (2 : Int)) ∈ sg := fun e => (t1 _).1 (h3 e)
        refine ⟨fun k => ?_, fun k hk' => ?_⟩
        · rw [keys_mPut, t1 k, List.mem_append, List.mem_singleton, Prod.mk.injEq]
          rcases hk with hk | hk
          · rw [hk]
            constructor
            · rintro (h | h)
              · exact .inr ⟨h, rfl⟩
              · exact .inl h
            · rintro (h | h)
              · exact .inr h
              · exact .inl h.1
          · constructor
            · rintro (h | h)
              · rw [h]; exact .inl (hin hk)
              · exact .inl h
            · rintro (h | h)
              · exact .inr h
              · omega
        · rw [List.mem_append, List.mem_singleton, Prod.mk.injEq] at hk' ⊢
          rcases hk' with hk' | ⟨h1, h2⟩
          · exact .inl (t2 k hk')
          · rw [h1]; exact .inl (hin (by omega))
    · rw [if_neg h, segS_other (fun e => h e.symm)]
      exact hi.sg u
end Go.Sh
