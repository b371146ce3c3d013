/- The program's Wrong, note by note. -/
import Derived.Test.YtjkhgfoecplbgaaW4
set_option linter.all false
set_option autoImplicit true
set_option relaxedAutoImplicit true
set_option linter.unusedVariables false
set_option linter.unusedSimpArgs false
namespace Go.Sh

def ofDel (of : List (List UInt8 × Int)) (ks : List (List UInt8)) : List (List UInt8 × Int) := of.filter (fun e => !ks.contains e.1)

theorem lookup_ofDel (of : List (List UInt8 × Int)) (ks : List (List UInt8)) (k : List UInt8) : (ofDel of ks).lookup k = if k ∈ ks then none else of.lookup k := by
  unfold ofDel
  rw [lookup_filter (fun a => !ks.contains a)]
  by_cases h : k ∈ ks
  · rw [if_pos h, if_neg]; simpa using h
  · rw [if_neg h, if_pos]; simpa using h

theorem WInv.closeOf {H p on of g} (hi : WInv H p on of g) {u : Int} {x : GU} (hx : g u = some x) (k : List UInt8) (u' : Int) :
    (ofDel of (x.ks.map Prod.fst)).lookup k = some u' ↔ u' ≠ u ∧ ∃ y, g u' = some y ∧ k ∈ y.ks.map Prod.fst := by
  rw [lookup_ofDel]
  by_cases h : k ∈ x.ks.map Prod.fst
  · rw [if_pos h]
    constructor
    · intro e; cases e
    · rintro ⟨h1, h2⟩
      have e1 := (hi.hof k u').2 h2
      have e2 := (hi.hof k u).2 ⟨x, hx, h⟩
      rw [e1] at e2
      cases e2
      exact absurd rfl h1
  · rw [if_neg h, hi.hof k u']
    constructor
    · rintro ⟨y, h1, h2⟩
      refine ⟨?_, y, h1, h2⟩
      rintro rfl
      rw [hx] at h1
      cases h1
      exact h h2
    · exact fun h => h.2

theorem WInv.quiet {H p on of g} (hi : WInv H p on of g) (n : Note) {x : GU} (hk : n.Kind = 4) (hx : g n.Unit = some x) {H' : Hp} {f : Int} {m : Nat} (e0 : H'[0]? = some (encOn on)) (e1 : H'[1]? = some (encOf (ofDel of (x.ks.map Prod.fst))))
    (old : ∀ i, 2 ≤ i → i < H.length → i ≠ x.i → H'[i]? = H[i]?) (ei : H'[x.i]? = some (encG f m)) (em : H'[m]? = some (encKs [])) (hm : H.length ≤ m) :
    WInv H' (p ++ [n]) on (ofDel of (x.ks.map Prod.fst)) (upd g n.Unit (some ⟨x.i, m, f, []⟩)) := by
  have l1 := get_lt' hi.h1
  obtain ⟨g1, g2, g3, g4, g5, g6⟩ := hi.hg _ x hx
  constructor
  · exact e0
  · exact e1
  · intro u
    rw [hi.hon u, upd]
    split
    · rename_i e; subst e; rw [hx]; rfl
    · rfl
  · exact hi.non
  · exact nodup_filter _ hi.nof
  · intro k u
    rw [hi.closeOf hx]
    unfold upd
    by_cases h : u = n.Unit
    · subst h
      rw [if_pos rfl]
      simp
    · rw [if_neg h]
      exact ⟨fun h1 => h1.2, fun h1 => ⟨h, h1⟩⟩
  · intro u y hy
    unfold upd at hy
    split at hy
    · cases hy
      exact ⟨ei, em, g3, by show 2 ≤ m; omega, by simp, by simp⟩
    · rename_i hne
      obtain ⟨a1, a2, a3, a4, a5, a6⟩ := hi.hg u y hy
      have hd := hi.dis u n.Unit y x hy hx hne
      have hji : y.j ≠ x.i := fun e => by rw [e, g1] at a2; cases a2
      exact ⟨by rw [old _ a3 (get_lt' a1) hd.1]; exact a1, by rw [old _ a4 (get_lt' a2) hji]; exact a2, a3, a4, a5, a6⟩
  · intro u u' y y' hy hy' hne
    unfold upd at hy hy'
    split at hy <;> split at hy'
    · omega
    · cases hy
      rename_i e _
      have := hi.dis n.Unit u' x y' hx hy' (by omega)
      have := get_lt' (hi.hg u' y' hy').2.1
      exact ⟨by show x.i ≠ y'.i; omega, by show m ≠ y'.j; omega⟩
    · cases hy'
      rename_i _ e
      have := hi.dis u n.Unit y x hy hx (by omega)
      have := get_lt' (hi.hg u y hy).2.1
      exact ⟨by show y.i ≠ x.i; omega, by show y.j ≠ m; omega⟩
    · exact hi.dis u u' y y' hy hy' hne
  · intro u
    rw [seg_snoc]
    unfold upd
    by_cases h : u = n.Unit
    · subst h
      rw [if_pos rfl]
      unfold segS
      rw [if_neg (by omega), if_pos (.inr hk)]
      simp [segOk]
    · rw [if_neg h, segS_other (fun e => h e.symm)]
      exact hi.sg u

theorem WInv.gone {H p on of g} (hi : WInv H p on of g) (n : Note) {x : GU} (hk : n.Kind = 5 ∨ n.Kind = 7) (hx : g n.Unit = some x) {H' : Hp} (e0 : H'[0]? = some (encOn (mDel n.Unit on))) (e1 : H'[1]? = some (encOf (ofDel of (x.ks.map Prod.fst))))
    (old : ∀ i, 2 ≤ i → i < H.length → i ≠ x.i → H'[i]? = H[i]?) :
    WInv H' (p ++ [n]) (mDel n.Unit on) (ofDel of (x.ks.map Prod.fst)) (upd g n.Unit none) := by
  obtain ⟨g1, g2, g3, g4, g5, g6⟩ := hi.hg _ x hx
  have hdel := mDel_filter n.Unit on hi.non
  constructor
  · exact e0
  · exact e1
  · intro u
    rw [hdel, lookup_filter (fun a => !(a == n.Unit)), upd]
    by_cases h : u = n.Unit
    · subst h; simp
    · rw [if_pos (by simpa using h), if_neg h]
      exact hi.hon u
  · rw [hdel]; exact nodup_filter _ hi.non
  · exact nodup_filter _ hi.nof
  · intro k u
    rw [hi.closeOf hx]
    unfold upd
    by_cases h : u = n.Unit
    · subst h
      rw [if_pos rfl]
      simp
    · rw [if_neg h]
      exact ⟨fun h1 => h1.2, fun h1 => ⟨h, h1⟩⟩
  · intro u y hy
    unfold upd at hy
    split at hy
    · cases hy
    · rename_i hne
      obtain ⟨a1, a2, a3, a4, a5, a6⟩ := hi.hg u y hy
      have hd := hi.dis u n.Unit y x hy hx hne
      have hji : y.j ≠ x.i := fun e => by rw [e, g1] at a2; cases a2
      exact ⟨by rw [old _ a3 (get_lt' a1) hd.1]; exact a1, by rw [old _ a4 (get_lt' a2) hji]; exact a2, a3, a4, a5, a6⟩
  · intro u u' y y' hy hy' hne
    unfold upd at hy hy'
    split at hy
    · cases hy
    · split at hy'
      · cases hy'
      · exact hi.dis u u' y y' hy hy' hne
  · intro u
    rw [seg_snoc]
    unfold upd
    by_cases h : u = n.Unit
    · subst h
      rw [if_pos rfl]
      unfold segS
      rw [if_neg (by omega), if_neg (by omega), if_pos hk]
      simp [segOk]
    · rw [if_neg h, segS_other (fun e => h e.symm)]
      exact hi.sg u

theorem set_same {α : Type} {l : List α} {i : Nat} {x : α} (h : l[i]? = some x) : l.set i x = l := by
  refine List.ext_getElem? fun j => ?_
  by_cases e : i = j
  · subst e; rw [List.getElem?_set_self (get_lt' h), h]
  · rw [List.getElem?_set_ne e]

theorem foldDel {f : Nat} {q3 : Hp × Nat} (h3 : q3.2 = 1) {q : Rng (List UInt8) Bool} (hit : q.it ≠ 1) (hmi : q.mi ≠ 1) : ∀ (ps : List (List UInt8 × Bool)) (of : List (List UInt8 × Int)) (y : Hp), (of.map Prod.fst).Nodup → y[1]? = some (encOf of) → holes q y = true →
    foldI (j_Wrong_l1 f q3 q) y ps = some (.inl (y.set 1 (encOf (ofDel of (ps.map Prod.fst)))))
  | [], of, y, _, h1, _ => by
    have : ofDel of [] = of := by unfold ofDel; simp
    simp only [foldI, List.map_nil, this]
    rw [set_same h1]
  | e :: ps, of, y, hn, h1, hh => by
    have hd : hMdel kS (cI .i64) y (some q3.2) e.1 = some (y.set 1 (encOf (mDel e.1 of))) := by
      rw [h3]
      simp only [hMdel, hMap_of h1, Option.map_some]
      rfl
    have hh' : holes q (y.set 1 (encOf (mDel e.1 of))) = true := by
      unfold holes at hh ⊢
      rw [List.getElem?_set_ne (Ne.symm hit), List.getElem?_set_ne (Ne.symm hmi)]
      exact hh
    have hdel := mDel_filter e.1 of hn
    have ih := foldDel (f := f) h3 hit hmi ps (mDel e.1 of) (y.set 1 (encOf (mDel e.1 of))) (by rw [hdel]; exact nodup_filter _ hn) (by rw [List.getElem?_set_self (get_lt' h1)]) hh'
    simp only [foldI, j_Wrong_l1, hd, Option.bind_some, chk, hh', cond_true]
    rw [ih, List.set_set, hdel]
    have : ofDel (of.filter fun e_1 => !(e_1.1 == e.1)) (ps.map Prod.fst) = ofDel of ((e :: ps).map Prod.fst) := by
      unfold ofDel
      rw [List.filter_filter]
      refine List.filter_congr fun a ha => ?_
      simp only [List.map_cons, List.contains_cons, Bool.not_or]
      rw [Bool.and_comm]
    rw [this]

/-- One note more. -/
theorem jw_step {l : List Note} (hl : l.length ≤ 1000) {k : Nat} (hk : k < l.length) {H : Hp} {on of g} (hi : WInv H (l.take k) on of g) {q2 q3 : Hp × Nat} (h2 : q2.2 = 0) (h3 : q3.2 = 1) :
    (wr (l.take k) l[k] ≠ 0 ∧ ∀ f, j_Wrong_l2 f l q2 q3 ((k : Int), H) = some (.inr (.inr ((k : Int), wr (l.take k) l[k])))) ∨
    (wr (l.take k) l[k] = 0 ∧ ∃ H' on' of' g', WInv H' (l.take (k + 1)) on' of' g' ∧ ∀ f, j_Wrong_l2 f l q2 q3 ((k : Int), H) = some (.inl (((k + 1 : Nat) : Int), H'))) := by
  have hidx := idx_nat (get_of_lt hk)
  rw [take_succ' hk]
  generalize hn : l[k] = n at *
  generalize hp : l.take k = p at *
  have hlook : hLook (kI .i64) cP H (some q2.2) n.Unit = some (on.lookup n.Unit) := by
    rw [h2]; simp only [hLook, hMap_on hi.h0, Option.map_some]
  have l0 := get_lt' hi.h0
  have l1 := get_lt' hi.h1
  have hw := wrapS (show k ≤ 1000000000 by omega)
  have hiso := hi.some_iff n.Unit
  by_cases c1 : (n.Kind != 6 && (on.lookup n.Unit).isSome == (n.Kind == 1)) = true
  · left
    have c1' := c1
    simp only [Bool.and_eq_true, bne_iff_ne, ne_eq, beq_iff_eq] at c1'
    have hwr : wr p n = 9 := by
      unfold wr
      rw [if_neg c1'.1, if_pos (by rw [← hiso]; exact c1'.2)]
    refine ⟨by rw [hwr]; omega, fun f => ?_⟩
    unfold j_Wrong_l2
    simp only [ltT hk, cond_true, hidx, Option.bind_some, hlook, c1, hwr]
  · have c1f : (n.Kind != 6 && (on.lookup n.Unit).isSome == (n.Kind == 1)) = false := by simpa using c1
    have c1' : n.Kind = 6 ∨ (seg p n.Unit).isSome ≠ (n.Kind == 1) := by
      rw [← hiso]
      by_cases e : n.Kind = 6
      · exact .inl e
      · refine .inr fun h => c1 ?_
        rw [h]; simp [e]
    have hw2 : n.Kind = 6 → wr p n = 0 := fun e => by unfold wr; rw [if_pos e]
    have hw3 : n.Kind ≠ 6 → n.Kind ≠ 2 → n.Kind ≠ 3 → wr p n = 0 := fun e e2 e3 => by
      unfold wr
      rw [if_neg e, if_neg (c1'.resolve_left e), if_pos ⟨e2, e3⟩]
    by_cases k1 : n.Kind = 1
    · -- begin
      right
      have hg : g n.Unit = none := by
        have e : (on.lookup n.Unit).isSome = false := by
          rcases c1' with e | e
          · omega
          · rw [hiso]; cases h : (seg p n.Unit).isSome
            · rfl
            · rw [h] at e; simp [k1] at e
        rw [hi.hon] at e
        cases h : g n.Unit
        · rfl
        · rw [h] at e; cases e
      refine ⟨hw3 (by omega) (by omega) (by omega), _, _, _, _, hi.begin n k k1 hg, fun f => ?_⟩
      have hput : hMput (kI .i64) cP (H ++ [encKs []] ++ [encG (k : Int) H.length]) (some q2.2) n.Unit (some (H.length + 1)) = some ((H ++ [encKs []] ++ [encG (k : Int) H.length]).set 0 (encOn (mPut n.Unit (some (H.length + 1)) on))) := by
        rw [h2]
        have : (H ++ [encKs []] ++ [encG (k : Int) H.length])[0]? = some (encOn on) := by
          rw [List.append_assoc, List.getElem?_append_left l0]; exact hi.h0
        simp only [hMput, Option.bind_some, hMap_on this, Option.map_some]
        rfl
      unfold j_Wrong_l2
      simp only [ltT hk, cond_true, hidx, Option.bind_some, hlook, c1f, cond_false]
      simp only [cond_true, Option.bind_some, k1, BEq.rfl, hNew, hw]
      have e1 : (H ++ [SObj.map []]).length = H.length + 1 := by simp
      rw [e1]
      have hput' : hMput (kI .i64) cP (H ++ [SObj.map []] ++ [SObj.cells [SV.d (D.int IntKind.i64 (k : Int)), SV.d (D.map H.length)]]) (some q2.2) n.Unit (some (H.length + 1)) = _ := hput
      rw [hput']
      rfl
    · by_cases k23 : n.Kind = 2 ∨ n.Kind = 3
      · -- an image
        have hgx : ∃ x, g n.Unit = some x := by
          have e : (on.lookup n.Unit).isSome = true := by
            rcases c1' with e | e
            · omega
            · rw [hiso]; cases h : (seg p n.Unit).isSome
              · rw [h] at e; simp [k1] at e
              · rfl
          rw [hi.hon] at e
          cases h : g n.Unit
          · rw [h] at e; cases e
          · exact ⟨_, rfl⟩
        obtain ⟨x, hx⟩ := hgx
        have hl6 : on.lookup n.Unit = some (some x.i) := by rw [hi.hon, hx]; rfl
        obtain ⟨g1, g2, g3, g4, g5, g6⟩ := hi.hg _ x hx
        have hofl : hLook kS (cI .i64) H (some q3.2) n.Key = some (of.lookup n.Key) := by
          rw [h3]; simp only [hLook, hMap_of hi.h1, Option.map_some]
        have hksl : hLook kS cB H (some x.j) n.Key = some (x.ks.lookup n.Key) := by
          simp only [hLook, hMap_ks g2, Option.map_some]
        have htch := hi.tch2 hx n.Key
        have hdup := hi.dup n
        have hlt : (x.ks.lookup n.Key).getD false = (x.ks.lookup n.Key).isSome := by
          cases h : x.ks.lookup n.Key with
          | none => rfl
          | some b =>
            have : b = true := by
              have : ∀ (es : List (List UInt8 × Bool)), es.lookup n.Key = some b → ∃ q ∈ es, q.2 = b := by
                intro es
                induction es with
                | nil => intro h; cases h
                | cons e es ih =>
                  intro h
                  obtain ⟨a, c⟩ := e
                  simp only [List.lookup] at h
                  split at h
                  · cases h; exact ⟨_, List.mem_cons_self, rfl⟩
                  · obtain ⟨q, hq, hq2⟩ := ih h
                    exact ⟨q, List.mem_cons_of_mem _ hq, hq2⟩
              obtain ⟨q, hq, rfl⟩ := this _ h
              exact g5 q hq
            subst this
            rfl
        have hwr0 : wr p n = if n.Kind = 3 ∧ tch p n.Unit n.Key 2 = false then 8 else if dup p n then 6 else 0 := by
          unfold wr
          rw [if_neg (by omega), if_neg (c1'.resolve_left (by omega)), if_neg (by omega)]
        have hputs : (n.Kind = 3 → n.Key ∈ x.ks.map Prod.fst) → dup p n = false → WInv ((H.set x.j (encKs (mPut n.Key true x.ks))).set 1 (encOf (mPut n.Key n.Unit of))) (p ++ [n]) on (mPut n.Key n.Unit of) (upd g n.Unit (some { x with ks := mPut n.Key true x.ks })) := fun h3' hd => by
          refine hi.key n k23 hx (fun u hu => ?_) h3'
          rw [hdup, hu] at hd
          simpa using hd
        have hp1 : hMput kS cB H (some x.j) n.Key true = some (H.set x.j (encKs (mPut n.Key true x.ks))) := by
          simp only [hMput, Option.bind_some, hMap_ks g2, Option.map_some]; rfl
        have hp2 : hMput kS (cI .i64) (H.set x.j (encKs (mPut n.Key true x.ks))) (some q3.2) n.Key n.Unit = some ((H.set x.j (encKs (mPut n.Key true x.ks))).set 1 (encOf (mPut n.Key n.Unit of))) := by
          rw [h3]
          have : (H.set x.j (encKs (mPut n.Key true x.ks)))[1]? = some (encOf of) := by
            rw [List.getElem?_set_ne (by omega)]; exact hi.h1
          simp only [hMput, Option.bind_some, hMap_of this, Option.map_some]; rfl
        have e1 : (n.Kind == 1) = false := by simpa using k1
        -- the common rest
        have rest : ∀ (f : Nat), (n.Kind = 3 → n.Key ∈ x.ks.map Prod.fst) → (if (of.lookup n.Key).isSome && ((of.lookup n.Key).getD 0 != n.Unit) then
            j_Wrong_l2 f l q2 q3 ((k : Int), H) = some (.inr (.inr ((k : Int), 6))) else j_Wrong_l2 f l q2 q3 ((k : Int), H) = some (.inl (((k + 1 : Nat) : Int), (H.set x.j (encKs (mPut n.Key true x.ks))).set 1 (encOf (mPut n.Key n.Unit of))))) := fun f h3' => by
          have hks : n.Kind = 3 → (x.ks.lookup n.Key).isSome = true := fun e => by
            obtain ⟨v, hv⟩ := mem_keys.1 (h3' e)
            rw [hv]; rfl
          unfold j_Wrong_l2 letJ
          simp only [ltT hk, cond_true, hidx, Option.bind_some, hlook, c1f, cond_false]
          simp only [cond_true, cond_false, Option.bind_some, e1, hl6, Option.getD_some, hGet_j g1, hksl, hofl, hlt, hp1, hp2, hw]
          rcases k23 with e | e
          · have e3 : (n.Kind == 3) = false := by simp [e]
            have e2 : (n.Kind == 2) = true := by simp [e]
            rw [e3, e2]
            simp only [cond_true, cond_false]
            split
            · rename_i hc; rw [hc]; rfl
            · rename_i hc; rw [Bool.not_eq_true] at hc; rw [hc]; rfl
          · have e3 : (n.Kind == 3) = true := by simp [e]
            rw [e3, hks e]
            simp only [cond_true, cond_false, Bool.not_true]
            split
            · rename_i hc; rw [hc]; rfl
            · rename_i hc; rw [Bool.not_eq_true] at hc; rw [hc]; rfl
        by_cases c8 : n.Kind = 3 ∧ tch p n.Unit n.Key 2 = false
        · left
          rw [hwr0, if_pos c8]
          refine ⟨by omega, fun f => ?_⟩
          have e3 : (n.Kind == 3) = true := by simp [c8.1]
          have : (x.ks.lookup n.Key).isSome = false := by rw [← htch]; exact c8.2
          unfold j_Wrong_l2 letJ
          simp only [ltT hk, cond_true, hidx, Option.bind_some, hlook, c1f, cond_false]
          simp only [cond_true, cond_false, Option.bind_some, e1, e3, hl6, Option.getD_some, hGet_j g1, hksl, hlt, this, Bool.not_false]
        · rw [hwr0, if_neg c8]
          have h3' : n.Kind = 3 → n.Key ∈ x.ks.map Prod.fst := fun e => by
            have : tch p n.Unit n.Key 2 = true := by
              cases h : tch p n.Unit n.Key 2
              · exact absurd ⟨e, h⟩ c8
              · rfl
            rw [htch] at this
            obtain ⟨v, hv⟩ := Option.isSome_iff_exists.1 this
            exact mem_keys.2 ⟨v, hv⟩
          cases hd : dup p n
          · right
            refine ⟨by simp, _, _, _, _, hputs h3' hd, fun f => ?_⟩
            have := rest f h3'
            rw [← hdup, hd] at this
            exact this
          · left
            refine ⟨by simp, fun f => ?_⟩
            have := rest f h3'
            rw [← hdup, hd] at this
            exact this
      · have e1 : (n.Kind == 1) = false := by simpa using k1
        have e2 : (n.Kind == 2) = false := by simp; omega
        have e3 : (n.Kind == 3) = false := by simp; omega
        by_cases k457 : n.Kind = 4 ∨ n.Kind = 5 ∨ n.Kind = 7
        · -- quiet, end, back
          right
          refine ⟨hw3 (by omega) (by omega) (by omega), ?_⟩
          have hgx : ∃ x, g n.Unit = some x := by
            have e : (on.lookup n.Unit).isSome = true := by
              rcases c1' with e | e
              · omega
              · rw [hiso]; cases h : (seg p n.Unit).isSome
                · rw [h] at e; simp [k1] at e
                · rfl
            rw [hi.hon] at e
            cases h : g n.Unit
            · rw [h] at e; cases e
            · exact ⟨_, rfl⟩
          obtain ⟨x, hx⟩ := hgx
          have hl6 : on.lookup n.Unit = some (some x.i) := by rw [hi.hon, hx]; rfl
          obtain ⟨g1, g2, g3, g4, g5, g6⟩ := hi.hg _ x hx
          have li := get_lt' g1
          have lj := get_lt' g2
          have hij : x.i ≠ x.j := fun e => by rw [e, g2] at g1; cases g1
          -- the heap on the way
          let q : Rng (List UInt8) Bool := ⟨x.ks, H.set x.j .hole ++ [.hole], H.length, x.j⟩
          have hrange : hRange kS cB H (some x.j) = some q := by
            simp only [hRange, Option.bind_some, hMap_ks g2, Option.map_some]; rfl
          have hq1 : q.H[1]? = some (encOf of) := by
            show (H.set x.j .hole ++ [.hole])[1]? = _
            rw [List.getElem?_append_left (by simpa using l1), List.getElem?_set_ne (by omega)]; exact hi.h1
          have hqit : q.H[q.it]? = some .hole := by
            show (H.set x.j .hole ++ [.hole])[H.length]? = _
            rw [List.getElem?_append_right (by simp)]; simp
          have hqmi : q.H[q.mi]? = some .hole := by
            show (H.set x.j .hole ++ [.hole])[x.j]? = _
            rw [List.getElem?_append_left (by simpa using lj), List.getElem?_set_self lj]
          have hho : holes q q.H = true := by unfold holes; rw [hqit, hqmi]; rfl
          let of' := ofDel of (x.ks.map Prod.fst)
          let HA : Hp := q.H.set 1 (encOf of')
          have hAho : holes q HA = true := by
            unfold holes
            show ((match (q.H.set 1 (encOf of'))[H.length]? with | some .hole => true | _ => false) && (match (q.H.set 1 (encOf of'))[x.j]? with | some .hole => true | _ => false)) = true
            rw [List.getElem?_set_ne (by omega), List.getElem?_set_ne (by omega)]
            exact hho
          let HB : Hp := HA.set x.j (encKs x.ks)
          have hback : hBack kS cB q HA = some HB := by
            unfold hBack
            rw [if_pos hAho]; rfl
          have lenB : HB.length = H.length + 1 := by simp [HB, HA, q]
          have getB : ∀ i, i < H.length → i ≠ 1 → HB[i]? = H[i]? := fun i h1 h2 => by
            by_cases e : i = x.j
            · subst e
              show (HA.set x.j (encKs x.ks))[x.j]? = _
              rw [List.getElem?_set_self (by simp [HA, q]; omega), g2]
            · show (HA.set x.j (encKs x.ks))[i]? = _
              rw [List.getElem?_set_ne (by omega)]
              show (q.H.set 1 (encOf of'))[i]? = _
              rw [List.getElem?_set_ne (by omega)]
              show (H.set x.j .hole ++ [.hole])[i]? = _
              rw [List.getElem?_append_left (by simpa using h1), List.getElem?_set_ne (by omega)]
          have getB1 : HB[1]? = some (encOf of') := by
            show (HA.set x.j (encKs x.ks))[1]? = _
            rw [List.getElem?_set_ne (by omega)]
            show (q.H.set 1 (encOf of'))[1]? = _
            rw [List.getElem?_set_self (get_lt' hq1)]
          let HC : Hp := HB ++ [encKs []]
          have getC : ∀ i, i < H.length → HC[i]? = HB[i]? := fun i h => by
            show (HB ++ [encKs []])[i]? = _
            rw [List.getElem?_append_left (by omega)]
          have hCi : HC[x.i]? = some (encG x.from' x.j) := by rw [getC _ li, getB _ li (by omega)]; exact g1
          have hs1 : hSet (cI .i64) HC x.i 0 (k : Int) = some (HC.set x.i (encG k x.j)) := hSet_f hCi
          have hs2 : hSet cM (HC.set x.i (encG k x.j)) x.i 1 (some (H.length + 1)) = some (HC.set x.i (encG k (H.length + 1))) := by
            have := hSet_j (H := HC.set x.i (encG k x.j)) (i := x.i) (j := x.j) (f := (k : Int)) (j' := H.length + 1) (by rw [List.getElem?_set_self (get_lt' hCi)])
            rw [this, List.set_set]
          let HD : Hp := HC.set x.i (encG k (H.length + 1))
          have getD' : ∀ i, i < H.length → i ≠ x.i → i ≠ 1 → HD[i]? = H[i]? := fun i h1 h2 h3 => by
            show (HC.set x.i _)[i]? = _
            rw [List.getElem?_set_ne (by omega), getC i h1, getB i h1 h3]
          have getD1 : HD[1]? = some (encOf of') := by
            show (HC.set x.i _)[1]? = _
            rw [List.getElem?_set_ne (by omega), getC 1 l1]; exact getB1
          have getDi : HD[x.i]? = some (encG k (H.length + 1)) := by
            show (HC.set x.i _)[x.i]? = _
            rw [List.getElem?_set_self (get_lt' hCi)]
          have getDm : HD[H.length + 1]? = some (encKs []) := by
            show (HC.set x.i _)[H.length + 1]? = _
            rw [List.getElem?_set_ne (by omega)]
            show (HB ++ [encKs []])[H.length + 1]? = _
            rw [← lenB, List.getElem?_append_right (by omega)]; simp
          have getD0 : HD[0]? = some (encOn on) := by rw [getD' 0 l0 (by omega) (by omega)]; exact hi.h0
          have hdel : hMdel (kI .i64) cP HD (some q2.2) n.Unit = some (HD.set 0 (encOn (mDel n.Unit on))) := by
            rw [h2]
            simp only [hMdel, hMap_on getD0, Option.map_some]; rfl
          -- what one order of the keys leads to
          have hfold : ∀ (f : Nat) (ps : List (List UInt8 × Bool)), ps.Perm q.es → foldI (j_Wrong_l1 f q3 q) q.H ps = some (.inl HA) := fun f ps hps => by
            rw [foldDel h3 (by show H.length ≠ 1; omega) (by show x.j ≠ 1; omega) ps of q.H hi.nof hq1 hho]
            have : ofDel of (ps.map Prod.fst) = of' := by
              show ofDel of (ps.map Prod.fst) = ofDel of (x.ks.map Prod.fst)
              unfold ofDel
              refine List.filter_congr fun a ha => ?_
              have hm : ∀ b, b ∈ ps.map Prod.fst ↔ b ∈ x.ks.map Prod.fst := fun b => (hps.map Prod.fst).mem_iff
              congr 1
              rw [Bool.eq_iff_iff, List.contains_iff_mem, List.contains_iff_mem]
              exact hm _
            rw [this]
          have hj23 : (if n.Kind = 4 then ∀ f, j_Wrong_l2 f l q2 q3 ((k : Int), H) = some (.inl (((k + 1 : Nat) : Int), HD)) else ∀ f, j_Wrong_l2 f l q2 q3 ((k : Int), H) = some (.inl (((k + 1 : Nat) : Int), HD.set 0 (encOn (mDel n.Unit on))))) := by
            have body : ∀ f (r : (Int × Hp) ⊕ ((Hp) ⊕ ((Int × Int)))), (bif (n.Kind != 4) then (hMdel (kI .i64) cP HD (some q2.2) n.Unit).bind fun H37 => some (.inl (((k + 1 : Nat) : Int), H37)) else some (.inl (((k + 1 : Nat) : Int), HD))) = some r → j_Wrong_l2 f l q2 q3 ((k : Int), H) = some r := fun f r hr => by
              unfold j_Wrong_l2 letJ
              simp only [ltT hk, cond_true, hidx, Option.bind_some, hlook, c1f, cond_false]
              simp only [cond_true, cond_false, Option.bind_some, e1, e2, e3, hl6, Option.getD_some, hGet_j g1, hrange, hw]
              have hall : ∀ (F : Hp → Option ((Int × Hp) ⊕ ((Hp) ⊕ ((Int × Int))))), F HA = some r → (allP q.es fun p => (foldI (j_Wrong_l1 f q3 q) q.H p).bind (Sum.elim F Empty.elim)) = some r := fun F hF => by
                refine allP_eq fun ps hps => ?_
                rw [hfold f ps hps]
                exact hF
              have hF : ∀ (X : Option ((Int × Hp) ⊕ ((Hp) ⊕ ((Int × Int))))), X = (bif (n.Kind == 4) then (allP q.es fun p => (foldI (j_Wrong_l1 f q3 q) q.H p).bind (Sum.elim (fun y30 =>
                  (hBack kS cB q y30).bind fun H31 =>
                  (hNew H31 (.map [])).bind fun q32 =>
                  (hSet (cI .i64) q32.1 x.i 0 (k : Int)).bind fun H34 =>
                  (hSet cM H34 x.i 1 (some q32.2)).bind fun H36 =>
                  bif (n.Kind != 4) then
                    (hMdel (kI .i64) cP H36 (some q2.2) n.Unit).bind fun H37 =>
                    some (.inl (((k + 1 : Nat) : Int), H37))
                  else
                    some (.inl (((k + 1 : Nat) : Int), H36)))
                  Empty.elim)) else X) → True := fun _ _ => trivial
              have hFA : ((hBack kS cB q HA).bind fun H31 =>
                  (hNew H31 (.map [])).bind fun q32 =>
                  (hSet (cI .i64) q32.1 x.i 0 (k : Int)).bind fun H34 =>
                  (hSet cM H34 x.i 1 (some q32.2)).bind fun H36 =>
                  bif (n.Kind != 4) then
                    (hMdel (kI .i64) cP H36 (some q2.2) n.Unit).bind fun H37 =>
                    some (.inl (((k + 1 : Nat) : Int), H37))
                  else
                    some (.inl (((k + 1 : Nat) : Int), H36))) = some r := by
                rw [hback]
                simp only [Option.bind_some, hNew, lenB]
                have hs1' : hSet (cI .i64) (HB ++ [SObj.map []]) x.i 0 (k : Int) = some (HC.set x.i (encG k x.j)) := hs1
                rw [hs1']
                simp only [Option.bind_some]
                rw [hs2]
                exact hr
              rcases k457 with e | e | e
              · have e4 : (n.Kind == 4) = true := by simp [e]
                rw [e4]
                simp only [cond_true]
                exact hall _ hFA
              · have e4 : (n.Kind == 4) = false := by simp [e]
                have e5 : (n.Kind == 5) = true := by simp [e]
                rw [e4, e5]
                simp only [cond_true, cond_false]
                exact hall _ hFA
              · have e4 : (n.Kind == 4) = false := by simp [e]
                have e5 : (n.Kind == 5) = false := by simp [e]
                have e7 : (n.Kind == 7) = true := by simp [e]
                rw [e4, e5, e7]
                simp only [cond_true, cond_false]
                exact hall _ hFA
            split
            · rename_i e
              refine fun f => body f _ ?_
              have e4 : (n.Kind != 4) = false := by simp [e]
              rw [e4]; rfl
            · rename_i e
              refine fun f => body f _ ?_
              have e4 : (n.Kind != 4) = true := by simpa using e
              rw [e4, hdel]; rfl
          by_cases k4 : n.Kind = 4
          · rw [if_pos k4] at hj23
            exact ⟨_, _, _, _, hi.quiet n k4 hx getD0 getD1 (fun i h1 h2 h3 => getD' i h2 h3 (by omega)) getDi getDm (by omega), hj23⟩
          · rw [if_neg k4] at hj23
            refine ⟨_, _, _, _, hi.gone n (by omega) hx (H' := HD.set 0 (encOn (mDel n.Unit on))) ?_ ?_ (fun i h1 h2 h3 => ?_), hj23⟩
            · rw [List.getElem?_set_self (get_lt' getD0)]
            · rw [List.getElem?_set_ne (by omega)]; exact getD1
            · rw [List.getElem?_set_ne (by omega)]; exact getD' i h2 h3 (by omega)
        · right
          have hwr : wr p n = 0 := by
            by_cases e : n.Kind = 6
            · exact hw2 e
            · exact hw3 e (by omega) (by omega)
          refine ⟨hwr, H, on, of, g, hi.pass n (by omega), fun f => ?_⟩
          have e4 : (n.Kind == 4) = false := by simp; omega
          have e5 : (n.Kind == 5) = false := by simp; omega
          have e7 : (n.Kind == 7) = false := by simp; omega
          unfold j_Wrong_l2 letJ
          simp only [ltT hk, cond_true, hidx, Option.bind_some, hlook, c1f, cond_false]
          simp only [cond_true, cond_false, Option.bind_some, e1, e2, e3, e4, e5, e7, hw]
end Go.Sh
