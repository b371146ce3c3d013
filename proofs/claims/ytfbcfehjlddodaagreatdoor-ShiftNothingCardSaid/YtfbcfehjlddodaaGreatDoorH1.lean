/- What values read as, told as lists. -/
import Derived.Test.YtfbcfehjlddodaaGreatDoorS3
import Derived.Deep.Slices
import Derived.WideShapes
import Derived.ChangeArms
import Derived.WalkKit
import Derived.ProofKit
import Derived.OpenShut
import Derived.JoinedOf
import Derived.Handed
import Derived.WideKeyArgs
import Derived.ChangeSame
set_option linter.all false
set_option autoImplicit true
set_option relaxedAutoImplicit true
namespace Go.Sh
open Go.ChangeShapes Go.WideShapes Go.Deep
def g0 : Gh := ⟨fun _ => .free, []⟩
theorem mapM_get {α β : Type} {f : α → Option β} : ∀ {l : List α} {r : List β}, l.mapM f = some r → ∀ (j : Nat) (x : α), l[j]? = some x → ∃ y, f x = some y ∧ r[j]? = some y
  | [], r, h, j, x, hj => by simp at hj
  | a :: l, r, h, j, x, hj => by
    simp only [List.mapM_cons, Option.bind_eq_bind, Option.bind_eq_some_iff] at h
    obtain ⟨y, h1, ys, h2, h3⟩ := h
    cases h3
    cases j with
    | zero => cases hj; exact ⟨y, h1, rfl⟩
    | succ j => exact mapM_get h2 j x (by simpa using hj)
theorem rd_list_of_trod {H : Type} {enc : TypeId × Go.Value → H} {α : Type} [Inhabited α] (enc' : α → D) {d : DataW H} 
    (hn0 : 0 < n) (hlen : ∀ x, (enc' x).cells.length = n) (ht : P.underlying t = some (.slice e)) (hn : P.cellsOf e = n) (hval : Value.okWide P W r b0 t v)
    (hel : ∀ (fuel : Nat) (cs' : List Go.Value) (x : DataW H × List MemPlace), DataW.trod enc P W 0 (fun _ => true) held fuel e cs' = some x → ∃ a : α, ∀ (j : Nat) (y : D), (enc' a).cells[j]? = some y → ∃ u, cs'[j]? = some u ∧ u.oneCell' = true ∧ Rd g0 W u y)
    (h : DataW.Trod enc P W 0 (fun _ => true) held t v d ps) : ∃ l : List α, Rd g0 W v (.list n (l.map enc')) := by
  obtain ⟨a, len, cap, rfl⟩ := okWide_slice ht hval
  obtain ⟨fuel, hf⟩ := h
  have hcs : (Value.slice a len cap).cells.toList = [.slice a len cap] := rfl
  rw [hcs] at hf
  rcases open_slice ht hf with ⟨e1, -⟩ | ⟨a', len', cap', m, n', Dd, Pl, e1, hb, hl, hm, hmm, hx, hcell⟩
  · cases e1
    exact ⟨[], .list0⟩
  · cases e1
    simp only [if_true] at hmm
    subst hmm
    rw [hn] at hcell
    have hi : ∀ i : Nat, ∃ x : α, i < len → ∀ (j : Nat) (y : D), (enc' x).cells[j]? = some y → ∃ u, W.cell? ((a'.add (i * n)).add j) = some u ∧ u.oneCell' = true ∧ Rd g0 W u y := fun i => by
      by_cases hlt : i < len
      · obtain ⟨cs', h1, h2⟩ := hcell i (by omega)
        obtain ⟨x, hx⟩ := hel _ _ _ h2
        refine ⟨x, fun _ j y hj => ?_⟩
        obtain ⟨u, u1, u2, u3⟩ := hx j y hj
        have hjn : j < n := by rw [← hlen x]; exact get_lt hj
        unfold World.cells? at h1
        rw [if_pos (by omega)] at h1
        obtain ⟨u', w1, w2⟩ := mapM_get h1 j j (by simp [hjn])
        rw [u1] at w2
        cases w2
        exact ⟨u, w1, u2, u3⟩
      · exact ⟨default, fun h => absurd h hlt⟩
    obtain ⟨X, hX⟩ := Classical.axiomOfChoice hi
    refine ⟨(List.range len).map X, ?_⟩
    by_cases h0 : len = 0
    · subst h0
      exact .list0
    · -- the block
      have hfirst : ∃ u, W.cell? a' = some u := by
        have := hX 0 (by omega) 0 ((enc' (X 0)).cells[0]'(by rw [hlen]; exact hn0)) (by rw [List.getElem?_eq_getElem])
        obtain ⟨u, hu, _⟩ := this
        simp only [Nat.zero_mul, Addr.add, if_true] at hu
        exact ⟨u, hu⟩
      obtain ⟨u0, hu0⟩ := hfirst
      obtain ⟨k, off, sp⟩ := a'
      unfold World.cell? at hu0
      simp only at hu0
      split at hu0
      · rename_i c T fz hbk
        split at hu0
        · cases hu0
        · rename_i hsp
          have hsp : sp = none := by cases sp <;> simp_all
          subst hsp
          have hadd : ∀ i j : Nat, W.cell? (((⟨k, off, none⟩ : Addr).add (i * n)).add j) = c[off + i * n + j]? := fun i j => by
            have : ((⟨k, off, none⟩ : Addr).add (i * n)).add j = ⟨k, off + i * n + j, none⟩ := by
              unfold Addr.add
              by_cases h1 : i * n = 0 <;> by_cases h2 : j = 0 <;> simp [h1, h2]
            rw [this]
            simp [World.cell?, hbk]
          have hget : ∀ (i : Nat) (x : D), (((List.range len).map X).map enc')[i]? = some x → i < len ∧ x = enc' (X i) := fun i x hx => by
            rw [List.getElem?_map, List.getElem?_map] at hx
            simp only [Option.map_map, Option.map_eq_some_iff] at hx
            obtain ⟨k', hk', rfl⟩ := hx
            have hlt : i < len := by have := get_lt hk'; simpa using this
            rw [List.getElem?_range hlt] at hk'
            cases hk'
            exact ⟨hlt, rfl⟩
          have hcc : ∀ (i : Nat) (x : D), (((List.range len).map X).map enc')[i]? = some x → ∀ (j : Nat) (y : D), x.cells[j]? = some y → ∃ u, c[off + i * n + j]? = some u ∧ u.oneCell' = true ∧ Rd g0 W u y := fun i x hx j y hy => by
            obtain ⟨h1, rfl⟩ := hget i x hx
            obtain ⟨u, u1, u2, u3⟩ := hX i h1 j y hy
            rw [hadd] at u1
            exact ⟨u, u1, u2, u3⟩
          refine Rd.list (c := c) (T := T) (fz := fz) (fun i j => c.getD (off + i * n + j) undef) rfl hbk (by simp) hl ?_ ?_ ?_
          · intro i x hx
            obtain ⟨_, rfl⟩ := hget i x hx
            exact hlen _
          · intro i x hx j y hy
            obtain ⟨u, u1, u2, u3⟩ := hcc i x hx j y hy
            have : c.getD (off + i * n + j) undef = u := by simp [Array.getD_eq_getD_getElem?, u1]
            rw [this]
            exact ⟨u1, u2⟩
          · intro i x hx j y hy
            obtain ⟨u, u1, u2, u3⟩ := hcc i x hx j y hy
            have : c.getD (off + i * n + j) undef = u := by simp [Array.getD_eq_getD_getElem?, u1]
            rw [this]
            exact u3
      · cases hu0
end Go.Sh
set_option maxRecDepth 100000
namespace Go.Sh
open Go.ChangeShapes Go.WideShapes Go.ChangeAt Go.RowKit
theorem take1_get {cs : List Go.Value} {o : Nat} {v : Go.Value} (h : (cs.drop o).take 1 = [v]) : cs[o]? = some v := by
  have := congrArg (fun l => l[0]?) h
  simpa using this
theorem mk_eta (s : ByteArray) : Value.string s = .string (mk s.data.toList) := by
  obtain ⟨⟨l⟩⟩ := s
  rfl
/-- What a frame of ours says of the world. -/
theorem Fr.kept (h : Fr pu g0 w g' w') (may : MemPlace → Prop) : w.keptBut w' may := by
  refine ⟨h.os.1, h.os.2, fun i hi => ?_⟩
  have := h.free i w.heap[i] rfl (by simp [hi])
  rw [this.2, Array.getElem?_eq_getElem hi]
  cases w.heap[i] <;> simp
theorem Fr.same (h : Fr pu g0 w g' w') (hp : p.block < w.heap.size) : w.sameAt w' p := by
  have := fun (i : Nat) (hi : i < w.heap.size) => h.free i w.heap[i] rfl (by simp [hi])
  cases p with
  | cell b off =>
    have hb : b < w.heap.size := hp
    show w'.cell? _ = w.cell? _
    unfold World.cell?
    simp only
    rw [(this b hb).2, Array.getElem?_eq_getElem hb]
  | map b =>
    have hb : b < w.heap.size := hp
    show w'.heap[b]? = w.heap[b]?
    rw [(this b hb).2, Array.getElem?_eq_getElem hb]
theorem Fr.fz (h : Fr pu g0 w g' w') (ha : a.block < w.heap.size) : w'.frozen? a = w.frozen? a := by
  have := h.free a.block w.heap[a.block] rfl (by simp [ha])
  unfold World.frozen?
  rw [this.2, Array.getElem?_eq_getElem ha]
variable {H : Type} {enc : TypeId × Go.Value → H} {P : Program}
/-- 'post_of_same', where only the flags of what was there are known. -/
theorem post_same {f : Func} {s : ChangeSpec} {apart fresh handsOn again : Bool} {W W' : World} {args : Array Go.Value} {v : Go.Value} {ds gs : List (DataW H)} {before pa pv : List MemPlace}
    (hW : DataW.Whole enc P f.params.toList s.vars apart W args.toList ds gs before)
    (hres : ∀ (b : Nat) (sp : Nat → Bool) (hd : Bool), DataW.TrodAll enc P W' b sp hd f.resultTypes.toList (v.resultList f.resultTypes.size) (s.fn H (ds ++ gs)).results [])
    (hargs : ∀ sp : Nat → Bool, (∀ p ∈ before, sp p.block = true) → DataW.TrodAll enc P W' 0 sp true f.params.toList args.toList (s.fn H (ds ++ gs)).args pa)
    (hvars : ∀ sp : Nat → Bool, (∀ p ∈ before, sp p.block = true) → DataW.TrodVars enc P W' sp s.vars (s.fn H (ds ++ gs)).vars pv)
    (hps : before = pa ++ pv) (hk : W.keptBut W' (· ∈ before)) (hfz : ∀ a : Addr, a.block < W.heap.size → W'.frozen? a = W.frozen? a)
    (hok : ∀ (j : Nat) (t : TypeId) (r : Go.Value), f.resultTypes[j]? = some t → (v.resultList f.resultTypes.size)[j]? = some r → Value.okWide P W' .any 0 t r) :
    s.post enc P f apart fresh handsOn again W args v W' := by
  have hlt := hW.lt
  have hold : ∀ p ∈ before, (fun b => decide (b < W.heap.size)) p.block = true := fun p hp => by simpa using hlt p hp
  refine ⟨ds, gs, before, [], pa, pv, hW, hres _ _ _, hargs _ hold, hvars _ hold, World.keptBut_mono (fun p hp => ⟨hp, ?_⟩) hk, fun _ => ?_⟩
  · rw [hps, List.mem_append] at hp
    exact Or.inr hp
  · obtain ⟨_, _, _, _, _, hz, hn⟩ := hW
    refine ⟨hok, _, _, ([] ++ pa) ++ pv, ⟨[] ++ pa, pv, trodAll_append (hargs _ (fun _ _ => rfl)) (hres _ _ _), hvars _ (fun _ _ => rfl), rfl, ?_, ?_⟩, ?_⟩
    · intro b off hp
      have hp' : MemPlace.cell b off ∈ before := by rw [hps]; simpa using hp
      rw [hfz _ (hlt _ hp')]
      exact hz b off hp'
    · intro ha
      have := hn ha
      rw [hps] at this
      simpa using this
    · intro p hp _
      rw [hps]
      simpa using hp
def fldB (P : Program) (e : TypeId) (j o : Nat) (q : TypeDesc → Bool) : Bool := match P.underlying e with
  | some (.struct fs) => (match fs[j]? with | some f => f.offset == o && P.cellsOf f.type == 1 && ((P.underlying f.type).map q).getD false | none => false)
  | _ => false
theorem fldB_spec {sp : Nat → Bool} {q : TypeDesc → Bool} {x : DataW H × List MemPlace} (h : fldB P e j o q = true) (hx : DataW.trod enc P W base sp held fuel e cs = some x) :
    ∃ (t : TypeId) (n : Nat) (y : DataW H × List MemPlace) (d : TypeDesc), P.underlying t = some d ∧ q d = true ∧ DataW.trod enc P W base sp held n t ((cs.drop o).take 1) = some y := by
  unfold fldB at h
  split at h
  · rename_i fs hs
    obtain ⟨xs, n, -, -, hl, hlen, hf⟩ := DataW.trod_struct hs hx
    split at h
    · rename_i f hfj
      simp only [Bool.and_eq_true, beq_iff_eq] at h
      obtain ⟨⟨h1, h2⟩, h3⟩ := h
      cases hd : P.underlying f.type with
      | none => rw [hd] at h3; cases h3
      | some d =>
        rw [hd] at h3
        have := hf j f hfj
        rw [h1, h2] at this
        have hj : j < xs.length := by rw [hlen]; exact (Array.getElem?_eq_some_iff.1 hfj).1
        rw [List.getElem?_eq_getElem hj] at this
        exact ⟨f.type, n, _, d, hd, h3, this⟩
    · cases h
  · cases h
def isS : TypeDesc → Bool | .string => true | _ => false
def isB : TypeDesc → Bool | .bool => true | _ => false
def isI : TypeDesc → Bool | .int .i64 => true | _ => false
theorem fldS {W : World} {held : Bool} {sp : Nat → Bool} {base : Nat} {e : TypeId} {j o : Nat} {fuel : Nat} {cs : List Go.Value} {x : DataW H × List MemPlace} (h : fldB P e j o isS = true) (hx : DataW.trod enc P W base sp held fuel e cs = some x) :
    ∃ l : List UInt8, cs[o]? = some (.string (mk l)) := by
  obtain ⟨t, n, y, d, h1, h2, h3⟩ := fldB_spec h hx
  cases d <;> simp only [isS, Bool.false_eq_true] at h2
  obtain ⟨s, hs, -⟩ := DataW.trod_string h1 h3
  exact ⟨s.data.toList, by rw [take1_get hs, mk_eta]⟩
theorem fldBo {W : World} {held : Bool} {sp : Nat → Bool} {base : Nat} {e : TypeId} {j o : Nat} {fuel : Nat} {cs : List Go.Value} {x : DataW H × List MemPlace} (h : fldB P e j o isB = true) (hx : DataW.trod enc P W base sp held fuel e cs = some x) :
    ∃ b : Bool, cs[o]? = some (.bool b) := by
  obtain ⟨t, n, y, d, h1, h2, h3⟩ := fldB_spec h hx
  cases d <;> simp only [isB, Bool.false_eq_true] at h2
  obtain ⟨s, hs, -⟩ := DataW.trod_bool h1 h3
  exact ⟨s, take1_get hs⟩
theorem fldI {W : World} {held : Bool} {sp : Nat → Bool} {base : Nat} {e : TypeId} {j o : Nat} {fuel : Nat} {cs : List Go.Value} {x : DataW H × List MemPlace} (h : fldB P e j o isI = true) (hx : DataW.trod enc P W base sp held fuel e cs = some x) :
    ∃ n : Int, cs[o]? = some (.int .i64 n) := by
  obtain ⟨t, n, y, d, h1, h2, h3⟩ := fldB_spec h hx
  cases d <;> simp only [isI, Bool.false_eq_true] at h2
  rename_i k
  cases k <;> simp only [Bool.false_eq_true] at h2
  obtain ⟨s, hs, -⟩ := DataW.trod_int h1 h3
  exact ⟨s, take1_get hs⟩
end Go.Sh
namespace Go.Sh
open Go.ChangeShapes Go.WideShapes Go.Deep
/-- Data of type t are read as values of α. -/
structure Rdr {α : Type} (P : Program) (W : World) (t : TypeId) (n : Nat) (enc' : α → D) (ok : α → Prop) : Prop where
  len : ∀ a, (enc' a).cells.length = n
  sz : P.cellsOf t = n
  rd : ∀ {H : Type} {enc : TypeId × Go.Value → H} {held : Bool} {fuel : Nat} {cs : List Go.Value} {x : DataW H × List MemPlace}, DataW.trod enc P W 0 (fun _ => true) held fuel t cs = some x →
    ∃ a : α, ok a ∧ ∀ (j : Nat) (y : D), (enc' a).cells[j]? = some y → ∃ u, cs[j]? = some u ∧ u.oneCell' = true ∧ Rd g0 W u y
section
variable {P : Program} {W : World} {α : Type}
theorem one_get (h1 : v.oneCell' = true) (h2 : Rd g0 W v d) (hd : d.cells = [d]) : ∀ (j : Nat) (y : D), d.cells[j]? = some y → ∃ u, [v][j]? = some u ∧ u.oneCell' = true ∧ Rd g0 W u y := fun j y hj => by
  rw [hd] at hj
  cases j with
  | zero => cases hj; exact ⟨v, rfl, h1, h2⟩
  | succ j => simp at hj
theorem Rdr.int (ht : P.underlying t = some (.int k)) (hs : P.cellsOf t = 1) : Rdr P W t 1 (D.int k) (fun n => (Lit.int k n).wf = true) :=
  ⟨fun _ => rfl, hs, fun h => by
    obtain ⟨n, rfl, _, hw⟩ := DataW.trod_int ht h
    exact ⟨n, hw, one_get rfl .int rfl⟩⟩
theorem Rdr.bool (ht : P.underlying t = some .bool) (hs : P.cellsOf t = 1) : Rdr P W t 1 D.bool (fun _ => True) :=
  ⟨fun _ => rfl, hs, fun h => by
    obtain ⟨n, rfl, _⟩ := DataW.trod_bool ht h
    exact ⟨n, trivial, one_get rfl .bool rfl⟩⟩
theorem Rdr.str (ht : P.underlying t = some .string) (hs : P.cellsOf t = 1) : Rdr P W t 1 D.str (fun _ => True) :=
  ⟨fun _ => rfl, hs, fun h => by
    obtain ⟨s, rfl, _⟩ := DataW.trod_string ht h
    exact ⟨s.data.toList, trivial, one_get rfl (.str : Rd g0 W (.string (Sh.mk s.data.toList)) _) rfl⟩⟩
theorem Rdr.list [Inhabited α] {enc' : α → D} {ok : α → Prop} (R : Rdr P W e n enc' ok) (hn0 : 0 < n) (ht : P.underlying t = some (.slice e)) (hs : P.cellsOf t = 1) :
    Rdr P W t 1 (fun l : List α => .list n (l.map enc')) (fun l => ∀ a ∈ l, ok a) := ⟨fun _ => rfl, hs, fun hf => by
  rcases open_slice ht hf with ⟨rfl, -⟩ | ⟨a', len, cap, m, n', Dd, Pl, rfl, hb, hl, hm, hmm, hx, hcell⟩
  · exact ⟨[], fun a h => by simp at h, one_get rfl .list0 rfl⟩
  · simp only [if_true] at hmm
    subst hmm
    rw [R.sz] at hcell
    have hi : ∀ i : Nat, ∃ x : α, i < len → ok x ∧ ∀ (j : Nat) (y : D), (enc' x).cells[j]? = some y → ∃ u, W.cell? ((a'.add (i * n)).add j) = some u ∧ u.oneCell' = true ∧ Rd g0 W u y := fun i => by
      by_cases hlt : i < len
      · obtain ⟨cs', h1, h2⟩ := hcell i (by omega)
        obtain ⟨x, hok, hx⟩ := R.rd h2
        refine ⟨x, fun _ => ⟨hok, fun j y hj => ?_⟩⟩
        obtain ⟨u, u1, u2, u3⟩ := hx j y hj
        have hjn : j < n := by rw [← R.len x]; exact get_lt hj
        unfold World.cells? at h1
        rw [if_pos (by omega)] at h1
        obtain ⟨u', w1, w2⟩ := mapM_get h1 j j (by simp [hjn])
        rw [u1] at w2
        cases w2
        exact ⟨u, w1, u2, u3⟩
      · exact ⟨default, fun h => absurd h hlt⟩
    obtain ⟨X, hX⟩ := Classical.axiomOfChoice hi
    refine ⟨(List.range len).map X, fun a ha => ?_, one_get rfl ?_ rfl⟩
    · obtain ⟨i, hi, rfl⟩ := List.mem_map.1 ha
      exact (hX i (by simpa using hi)).1
    by_cases h0 : len = 0
    · subst h0
      exact .list0
    · have hfirst : ∃ u, W.cell? a' = some u := by
        obtain ⟨u, hu, _⟩ := (hX 0 (by omega)).2 0 ((enc' (X 0)).cells[0]'(by rw [R.len]; exact hn0)) (by rw [List.getElem?_eq_getElem])
        simp only [Nat.zero_mul, Addr.add, if_true] at hu
        exact ⟨u, hu⟩
      obtain ⟨u0, hu0⟩ := hfirst
      obtain ⟨k, off, sp⟩ := a'
      unfold World.cell? at hu0
      simp only at hu0
      split at hu0
      · rename_i c T fz hbk
        split at hu0
        · cases hu0
        · rename_i hsp
          have hsp : sp = none := by cases sp <;> simp_all
          subst hsp
          have hadd : ∀ i j : Nat, W.cell? (((⟨k, off, none⟩ : Addr).add (i * n)).add j) = c[off + i * n + j]? := fun i j => by
            have : ((⟨k, off, none⟩ : Addr).add (i * n)).add j = ⟨k, off + i * n + j, none⟩ := by
              unfold Addr.add
              by_cases h1 : i * n = 0 <;> by_cases h2 : j = 0 <;> simp [h1, h2]
            rw [this]
            simp [World.cell?, hbk]
          have hget : ∀ (i : Nat) (x : D), (((List.range len).map X).map enc')[i]? = some x → i < len ∧ x = enc' (X i) := fun i x hx => by
            rw [List.getElem?_map, List.getElem?_map] at hx
            simp only [Option.map_map, Option.map_eq_some_iff] at hx
            obtain ⟨k', hk', rfl⟩ := hx
            have hlt : i < len := by have := get_lt hk'; simpa using this
            rw [List.getElem?_range hlt] at hk'
            cases hk'
            exact ⟨hlt, rfl⟩
          have hcc : ∀ (i : Nat) (x : D), (((List.range len).map X).map enc')[i]? = some x → ∀ (j : Nat) (y : D), x.cells[j]? = some y → ∃ u, c[off + i * n + j]? = some u ∧ u.oneCell' = true ∧ Rd g0 W u y := fun i x hx j y hy => by
            obtain ⟨h1, rfl⟩ := hget i x hx
            obtain ⟨u, u1, u2, u3⟩ := (hX i h1).2 j y hy
            rw [hadd] at u1
            exact ⟨u, u1, u2, u3⟩
          refine Rd.list (c := c) (T := T) (fz := fz) (fun i j => c.getD (off + i * n + j) undef) rfl hbk (by simp) hl ?_ ?_ ?_
          · intro i x hx
            obtain ⟨_, rfl⟩ := hget i x hx
            exact R.len _
          · intro i x hx j y hy
            obtain ⟨u, u1, u2, u3⟩ := hcc i x hx j y hy
            have : c.getD (off + i * n + j) undef = u := by simp [Array.getD_eq_getD_getElem?, u1]
            rw [this]
            exact ⟨u1, u2⟩
          · intro i x hx j y hy
            obtain ⟨u, u1, u2, u3⟩ := hcc i x hx j y hy
            have : c.getD (off + i * n + j) undef = u := by simp [Array.getD_eq_getD_getElem?, u1]
            rw [this]
            exact u3
      · cases hu0⟩
def fldT (P : Program) (t : TypeId) (j : Nat) : Option (TypeId × Nat) := match P.underlying t with
  | some (.struct fs) => (fs[j]?).map fun f => (f.type, f.offset)
  | _ => none
theorem fldR {enc' : α → D} {ok : α → Prop} (hT : fldT P t j = some (tj, oj)) (R : Rdr P W tj n enc' ok) {H : Type} {enc : TypeId × Go.Value → H} {x : DataW H × List MemPlace}
    (hx : DataW.trod enc P W 0 (fun _ => true) held fuel t cs = some x) : ∃ a : α, ok a ∧ ∀ (i : Nat) (y : D), (enc' a).cells[i]? = some y → ∃ u, cs[oj + i]? = some u ∧ u.oneCell' = true ∧ Rd g0 W u y := by
  unfold fldT at hT
  split at hT
  · rename_i fs hu
    simp only [Option.map_eq_some_iff, Prod.mk.injEq] at hT
    obtain ⟨f, hf, rfl, rfl⟩ := hT
    obtain ⟨xs, m, _, _, hl, hlen, hfs⟩ := DataW.trod_struct hu hx
    have h1 := hfs j f hf
    have hlt : j < xs.length := by rw [hlen]; exact (Array.getElem?_eq_some_iff.1 hf).1
    rw [List.getElem?_eq_getElem hlt] at h1
    obtain ⟨a, ha, hc⟩ := R.rd h1
    refine ⟨a, ha, fun i y hi => ?_⟩
    obtain ⟨u, u1, u2, u3⟩ := hc i y hi
    refine ⟨u, ?_, u2, u3⟩
    rw [List.getElem?_take] at u1
    split at u1
    · rwa [List.getElem?_drop] at u1
    · cases u1
  · cases hT
def isStructB (P : Program) (t : TypeId) : Bool := match P.underlying t with
  | some (.struct _) => true
  | _ => false
def isSliceB (P : Program) (t : TypeId) : Bool := match P.underlying t with
  | some (.slice _) => true
  | _ => false
theorem Rdr.top_struct {enc' : α → D} {ok : α → Prop} (R : Rdr P W t n enc' ok) (hu : isStructB P t = true) (hagg : ∀ a, enc' a = .agg (enc' a).cells) {H : Type} {enc : TypeId × Go.Value → H} 
    {d : DataW H} (hval : Value.okWide P W r b0 t v) (h : DataW.Trod enc P W 0 (fun _ => true) held t v d ps) : ∃ a, ok a ∧ Rd g0 W v (enc' a) := by
  obtain ⟨fs, hu⟩ : ∃ fs, P.underlying t = some (.struct fs) := by
    unfold isStructB at hu
    split at hu
    · exact ⟨_, by assumption⟩
    · cases hu
  obtain ⟨cs, rfl, hsz⟩ := okWide_struct hu hval
  obtain ⟨fuel, hf⟩ := h
  obtain ⟨a, ha, hc⟩ := R.rd hf
  refine ⟨a, ha, ?_⟩
  rw [hagg a]
  have hcs : (Value.agg cs).cells.toList = cs.toList := rfl
  rw [hcs] at hc
  have hget : ∀ (j : Nat) (y : D), (enc' a).cells[j]? = some y → ∃ u, cs[j]? = some u ∧ u.oneCell' = true ∧ Rd g0 W u y := fun j y hj => by
    obtain ⟨u, u1, u2, u3⟩ := hc j y hj
    exact ⟨u, by simpa using u1, u2, u3⟩
  refine .agg (by rw [hsz, R.sz, R.len]) (fun j => cs.getD j undef) (fun j y hj => ?_) (fun j y hj => ?_)
  · obtain ⟨u, u1, u2, u3⟩ := hget j y hj
    have : cs.getD j undef = u := by simp [Array.getD_eq_getD_getElem?, u1]
    rw [this]; exact ⟨u1, u2⟩
  · obtain ⟨u, u1, u2, u3⟩ := hget j y hj
    have : cs.getD j undef = u := by simp [Array.getD_eq_getD_getElem?, u1]
    rw [this]; exact u3
theorem Rdr.top_list {enc' : List α → D} {ok : List α → Prop} (R : Rdr P W t 1 enc' ok) (hu : isSliceB P t = true) (h1 : ∀ a, (enc' a).cells = [enc' a]) {H : Type} {enc : TypeId × Go.Value → H} 
    {d : DataW H} (hval : Value.okWide P W r b0 t v) (h : DataW.Trod enc P W 0 (fun _ => true) held t v d ps) : ∃ a, ok a ∧ Rd g0 W v (enc' a) := by
  obtain ⟨e, hu⟩ : ∃ e, P.underlying t = some (.slice e) := by
    unfold isSliceB at hu
    split at hu
    · exact ⟨_, by assumption⟩
    · cases hu
  obtain ⟨a0, len, cap, rfl⟩ := okWide_slice hu hval
  obtain ⟨fuel, hf⟩ := h
  obtain ⟨a, ha, hc⟩ := R.rd hf
  obtain ⟨u, u1, u2, u3⟩ := hc 0 (enc' a) (by rw [h1]; rfl)
  cases u1
  exact ⟨a, ha, u3⟩
end
/-- The bounds of an int. -/
theorem wf_i64 (h : (Lit.int .i64 n).wf = true) : -9223372036854775808 ≤ n ∧ n < 9223372036854775808 := by
  simp only [Lit.wf] at h
  simp only [Bool.and_eq_true, decide_eq_true_eq] at h
  have e : IntKind.i64.min = -9223372036854775808 := rfl
  have e2 : IntKind.i64.max = 9223372036854775807 := rfl
  omega
end Go.Sh
