/- What values read as, told as lists. -/
import Derived.Test.YtfjidpnkindifaaGreatDoorW1
import Derived.Deep.Slices
import Derived.WideShapes
import Derived.ChangeArms
import Derived.WalkKit
import Derived.ProofKit
import Derived.OpenShut
import Derived.JoinedOf
import Derived.Handed
import Derived.WideKeyArgs
import Derived.ChangeSame
import Derived.Test.YtfjidpnkindifaaGreatDoorRows
set_option linter.all false
set_option autoImplicit true
set_option relaxedAutoImplicit true
namespace Go.Sh
open Go.ChangeShapes Go.WideShapes Go.Deep
def g0 : Gh := ⟨fun _ => .free, []⟩
theorem mapM_get {α β : Type} {f : α → Option β} : ∀ {l : List α} {r : List β}, l.mapM f = some r → ∀ (j : Nat) (x : α), l[j]? = some x → ∃ y, f x = some y ∧ r[j]? = some y
  | [], r, h, j, x, hj => by simp at hj
  | a :: l, r, h, j, x, hj => by
    simp only [List.mapM_cons, Option.bind_eq_bind, Option.bind_eq_some_iff] at h
    obtain ⟨y, h1, ys, h2, h3⟩ := h
    cases h3
    cases j with
    | zero => cases hj; exact ⟨y, h1, rfl⟩
    | succ j => exact mapM_get h2 j x (by simpa using hj)
end Go.Sh
set_option maxRecDepth 100000
namespace Go.Sh
open Go.ChangeShapes Go.WideShapes Go.ChangeAt Go.RowKit
theorem Fr.kept (h : Fr pu g0 w g' w') (may : MemPlace → Prop) : w.keptBut w' may := by
  refine ⟨h.os.1, h.os.2, fun i hi => ?_⟩
  have := h.free i w.heap[i] rfl (by simp [hi])
  rw [this.2, Array.getElem?_eq_getElem hi]
  cases w.heap[i] <;> simp
theorem Fr.same (h : Fr pu g0 w g' w') (hp : p.block < w.heap.size) : w.sameAt w' p := by
  have := fun (i : Nat) (hi : i < w.heap.size) => h.free i w.heap[i] rfl (by simp [hi])
  cases p with
  | cell b off =>
    have hb : b < w.heap.size := hp
    show w'.cell? _ = w.cell? _
    unfold World.cell?
    simp only
    rw [(this b hb).2, Array.getElem?_eq_getElem hb]
  | map b =>
    have hb : b < w.heap.size := hp
    show w'.heap[b]? = w.heap[b]?
    rw [(this b hb).2, Array.getElem?_eq_getElem hb]
theorem Fr.fz (h : Fr pu g0 w g' w') (ha : a.block < w.heap.size) : w'.frozen? a = w.frozen? a := by
  have := h.free a.block w.heap[a.block] rfl (by simp [ha])
  unfold World.frozen?
  rw [this.2, Array.getElem?_eq_getElem ha]
variable {H : Type} {enc : TypeId × Go.Value → H} {P : Program}
theorem post_same {f : Func} {s : ChangeSpec} {apart fresh handsOn again : Bool} {W W' : World} {args : Array Go.Value} {v : Go.Value} {ds gs : List (DataW H)} {before pa pv : List MemPlace}
    (hW : DataW.Whole enc P f.params.toList s.vars apart W args.toList ds gs before)
    (hres : ∀ (b : Nat) (sp : Nat → Bool) (hd : Bool), DataW.TrodAll enc P W' b sp hd f.resultTypes.toList (v.resultList f.resultTypes.size) (s.fn H (ds ++ gs)).results [])
    (hargs : ∀ sp : Nat → Bool, (∀ p ∈ before, sp p.block = true) → DataW.TrodAll enc P W' 0 sp true f.params.toList args.toList (s.fn H (ds ++ gs)).args pa)
    (hvars : ∀ sp : Nat → Bool, (∀ p ∈ before, sp p.block = true) → DataW.TrodVars enc P W' sp s.vars (s.fn H (ds ++ gs)).vars pv)
    (hps : before = pa ++ pv) (hk : W.keptBut W' (· ∈ before)) (hfz : ∀ a : Addr, a.block < W.heap.size → W'.frozen? a = W.frozen? a)
    (hok : ∀ (j : Nat) (t : TypeId) (r : Go.Value), f.resultTypes[j]? = some t → (v.resultList f.resultTypes.size)[j]? = some r → Value.okWide P W' .any 0 t r) :
    s.post enc P f apart fresh handsOn again W args v W' := by
  have hlt := hW.lt
  have hold : ∀ p ∈ before, (fun b => decide (b < W.heap.size)) p.block = true := fun p hp => by simpa using hlt p hp
  refine ⟨ds, gs, before, [], pa, pv, hW, hres _ _ _, hargs _ hold, hvars _ hold, World.keptBut_mono (fun p hp => ⟨hp, ?_⟩) hk, fun _ => ?_⟩
  · rw [hps, List.mem_append] at hp
    exact Or.inr hp
  · obtain ⟨_, _, _, _, _, hz, hn⟩ := hW
    refine ⟨hok, _, _, ([] ++ pa) ++ pv, ⟨[] ++ pa, pv, trodAll_append (hargs _ (fun _ _ => rfl)) (hres _ _ _), hvars _ (fun _ _ => rfl), rfl, ?_, ?_⟩, ?_⟩
    · intro b off hp
      have hp' : MemPlace.cell b off ∈ before := by rw [hps]; simpa using hp
      rw [hfz _ (hlt _ hp')]
      exact hz b off hp'
    · intro ha
      have := hn ha
      rw [hps] at this
      simpa using this
    · intro p hp _
      rw [hps]
      simpa using hp
end Go.Sh
namespace Go.Sh
open Go.ChangeShapes Go.WideShapes Go.Deep
open Go.Proofs.YtfjidpnkindifaaGreatDoor.Rows (uptoBulk uptoBulkAll)
theorem bulk_pos {H : Type} (d : DataW H) : 1 ≤ uptoBulk d := by
  cases d with
  | lit l => cases l <;> simp [uptoBulk]
  | _ => simp [uptoBulk]
theorem bulk_mem {H : Type} {d : DataW H} : ∀ {l : List (DataW H)}, d ∈ l → uptoBulk d ≤ uptoBulkAll l
  | e :: l, h => by
    simp only [uptoBulkAll]
    rcases List.mem_cons.1 h with rfl | h
    · omega
    · have := bulk_mem h; omega
theorem bulk_len {H : Type} : ∀ {l : List (DataW H)}, l.length ≤ uptoBulkAll l
  | [] => Nat.zero_le _
  | e :: l => by
    have := bulk_len (l := l)
    have := bulk_pos e
    simp only [uptoBulkAll, List.length_cons]
    omega
structure RdrB {α : Type} (P : Program) (W : World) (t : TypeId) (n : Nat) (enc' : α → D) (ok : α → Prop) (B : Nat) : Prop where
  len : ∀ a, (enc' a).cells.length = n
  sz : P.cellsOf t = n
  rd : ∀ {H : Type} {enc : TypeId × Go.Value → H} {held : Bool} {fuel : Nat} {cs : List Go.Value} {x : DataW H × List MemPlace}, DataW.trod enc P W 0 (fun _ => true) held fuel t cs = some x → uptoBulk x.1 ≤ B →
    ∃ a : α, ok a ∧ ∀ (j : Nat) (y : D), (enc' a).cells[j]? = some y → ∃ u, cs[j]? = some u ∧ u.oneCell' = true ∧ Rd g0 W u y
section
variable {P : Program} {W : World} {α : Type} {B : Nat}
theorem one_getB {v : Go.Value} {d : D} (h1 : v.oneCell' = true) (h2 : Rd g0 W v d) (hd : d.cells = [d]) : ∀ (j : Nat) (y : D), d.cells[j]? = some y → ∃ u, [v][j]? = some u ∧ u.oneCell' = true ∧ Rd g0 W u y := fun j y hj => by
  rw [hd] at hj
  cases j with
  | zero => cases hj; exact ⟨v, rfl, h1, h2⟩
  | succ j => simp at hj
theorem RdrB.int {t : TypeId} {k : IntKind} (ht : P.underlying t = some (.int k)) (hs : P.cellsOf t = 1) : RdrB P W t 1 (D.int k) (fun n => (Lit.int k n).wf = true) B :=
  ⟨fun _ => rfl, hs, fun h _ => by
    obtain ⟨n, rfl, _, hw⟩ := DataW.trod_int ht h
    exact ⟨n, hw, one_getB rfl .int rfl⟩⟩
theorem RdrB.str {t : TypeId} (ht : P.underlying t = some .string) (hs : P.cellsOf t = 1) : RdrB P W t 1 D.str (fun _ => True) B :=
  ⟨fun _ => rfl, hs, fun h _ => by
    obtain ⟨s, rfl, _⟩ := DataW.trod_string ht h
    exact ⟨s.data.toList, trivial, one_getB rfl (.str : Rd g0 W (.string (Sh.mk s.data.toList)) _) rfl⟩⟩
theorem RdrB.list [Inhabited α] {t e : TypeId} {n : Nat} {enc' : α → D} {ok : α → Prop} (R : RdrB P W e n enc' ok B) (hn0 : 0 < n) (ht : P.underlying t = some (.slice e)) (hs : P.cellsOf t = 1) :
    RdrB P W t 1 (fun l : List α => .list n (l.map enc')) (fun l => l.length ≤ B ∧ ∀ a ∈ l, ok a) B := ⟨fun _ => rfl, hs, fun hf hB => by
  rcases open_slice ht hf with ⟨rfl, -⟩ | ⟨a', len, cap, m, n', Dd, Pl, rfl, hb, hl, hm, hmm, hx, hcell⟩
  · exact ⟨[], ⟨Nat.zero_le _, fun a h => by simp at h⟩, one_getB rfl .list0 rfl⟩
  · simp only [if_true] at hmm
    subst hmm
    subst hx
    simp only [uptoBulk] at hB
    have hlB : len ≤ B := by
      have := bulk_len (l := (List.range len).map Dd)
      simp only [List.length_map, List.length_range] at this
      omega
    rw [R.sz] at hcell
    have hi : ∀ i : Nat, ∃ x : α, i < len → ok x ∧ ∀ (j : Nat) (y : D), (enc' x).cells[j]? = some y → ∃ u, W.cell? ((a'.add (i * n)).add j) = some u ∧ u.oneCell' = true ∧ Rd g0 W u y := fun i => by
      by_cases hlt : i < len
      · obtain ⟨cs', h1, h2⟩ := hcell i (by omega)
        obtain ⟨x, hok, hx⟩ := R.rd h2 (by
          have := bulk_mem (d := Dd i) (l := (List.range len).map Dd) (List.mem_map.2 ⟨i, by simpa using hlt, rfl⟩)
          simp only
          omega)
        refine ⟨x, fun _ => ⟨hok, fun j y hj => ?_⟩⟩
        obtain ⟨u, u1, u2, u3⟩ := hx j y hj
        have hjn : j < n := by rw [← R.len x]; exact get_lt hj
        unfold World.cells? at h1
        rw [if_pos (by omega)] at h1
        obtain ⟨u', w1, w2⟩ := mapM_get h1 j j (by simp [hjn])
        rw [u1] at w2
        cases w2
        exact ⟨u, w1, u2, u3⟩
      · exact ⟨default, fun h => absurd h hlt⟩
    obtain ⟨X, hX⟩ := Classical.axiomOfChoice hi
    refine ⟨(List.range len).map X, ⟨by simpa using hlB, fun a ha => ?_⟩, one_getB rfl ?_ rfl⟩
    · obtain ⟨i, hi, rfl⟩ := List.mem_map.1 ha
      exact (hX i (by simpa using hi)).1
    by_cases h0 : len = 0
    · subst h0
      exact .list0
    · have hfirst : ∃ u, W.cell? a' = some u := by
        obtain ⟨u, hu, _⟩ := (hX 0 (by omega)).2 0 ((enc' (X 0)).cells[0]'(by rw [R.len]; exact hn0)) (by rw [List.getElem?_eq_getElem])
        simp only [Nat.zero_mul, Addr.add, if_true] at hu
        exact ⟨u, hu⟩
      obtain ⟨u0, hu0⟩ := hfirst
      obtain ⟨k, off, sp⟩ := a'
      unfold World.cell? at hu0
      simp only at hu0
      split at hu0
      · rename_i c T fz hbk
        split at hu0
        · cases hu0
        · rename_i hsp
          have hsp : sp = none := by cases sp <;> simp_all
          subst hsp
          have hadd : ∀ i j : Nat, W.cell? (((⟨k, off, none⟩ : Addr).add (i * n)).add j) = c[off + i * n + j]? := fun i j => by
            have : ((⟨k, off, none⟩ : Addr).add (i * n)).add j = ⟨k, off + i * n + j, none⟩ := by
              unfold Addr.add
              by_cases h1 : i * n = 0 <;> by_cases h2 : j = 0 <;> simp [h1, h2]
            rw [this]
            simp [World.cell?, hbk]
          have hget : ∀ (i : Nat) (x : D), (((List.range len).map X).map enc')[i]? = some x → i < len ∧ x = enc' (X i) := fun i x hx => by
            rw [List.getElem?_map, List.getElem?_map] at hx
            simp only [Option.map_map, Option.map_eq_some_iff] at hx
            obtain ⟨k', hk', rfl⟩ := hx
            have hlt : i < len := by have := get_lt hk'; simpa using this
            rw [List.getElem?_range hlt] at hk'
            cases hk'
            exact ⟨hlt, rfl⟩
          have hcc : ∀ (i : Nat) (x : D), (((List.range len).map X).map enc')[i]? = some x → ∀ (j : Nat) (y : D), x.cells[j]? = some y → ∃ u, c[off + i * n + j]? = some u ∧ u.oneCell' = true ∧ Rd g0 W u y := fun i x hx j y hy => by
            obtain ⟨h1, rfl⟩ := hget i x hx
            obtain ⟨u, u1, u2, u3⟩ := (hX i h1).2 j y hy
            rw [hadd] at u1
            exact ⟨u, u1, u2, u3⟩
          refine Rd.list (c := c) (T := T) (fz := fz) (fun i j => c.getD (off + i * n + j) undef) rfl hbk (by simp) hl ?_ ?_ ?_
          · intro i x hx
            obtain ⟨_, rfl⟩ := hget i x hx
            exact R.len _
          · intro i x hx j y hy
            obtain ⟨u, u1, u2, u3⟩ := hcc i x hx j y hy
            have : c.getD (off + i * n + j) undef = u := by simp [Array.getD_eq_getD_getElem?, u1]
            rw [this]
            exact ⟨u1, u2⟩
          · intro i x hx j y hy
            obtain ⟨u, u1, u2, u3⟩ := hcc i x hx j y hy
            have : c.getD (off + i * n + j) undef = u := by simp [Array.getD_eq_getD_getElem?, u1]
            rw [this]
            exact u3
      · cases hu0⟩
def fldTB (P : Program) (t : TypeId) (j : Nat) : Option (TypeId × Nat) := match P.underlying t with
  | some (.struct fs) => (fs[j]?).map fun f => (f.type, f.offset)
  | _ => none
theorem fldRB {t tj oj n j : Nat} {enc' : α → D} {ok : α → Prop} (hT : fldTB P t j = some (tj, oj)) (R : RdrB P W tj n enc' ok B) {H : Type} {enc : TypeId × Go.Value → H} {held : Bool} {fuel : Nat} {cs : List Go.Value} {x : DataW H × List MemPlace}
    (hx : DataW.trod enc P W 0 (fun _ => true) held fuel t cs = some x) (hB : uptoBulk x.1 ≤ B) : ∃ a : α, ok a ∧ ∀ (i : Nat) (y : D), (enc' a).cells[i]? = some y → ∃ u, cs[oj + i]? = some u ∧ u.oneCell' = true ∧ Rd g0 W u y := by
  unfold fldTB at hT
  split at hT
  · rename_i fs hu
    simp only [Option.map_eq_some_iff, Prod.mk.injEq] at hT
    obtain ⟨f, hf, rfl, rfl⟩ := hT
    obtain ⟨xs, m, _, hxe, hl, hlen, hfs⟩ := DataW.trod_struct hu hx
    subst hxe
    simp only [uptoBulk] at hB
    have h1 := hfs j f hf
    have hlt : j < xs.length := by rw [hlen]; exact (Array.getElem?_eq_some_iff.1 hf).1
    rw [List.getElem?_eq_getElem hlt] at h1
    obtain ⟨a, ha, hc⟩ := R.rd h1 (by
      have := bulk_mem (d := xs[j].1) (l := xs.map (·.1)) (List.mem_map.2 ⟨xs[j], List.getElem_mem hlt, rfl⟩)
      omega)
    refine ⟨a, ha, fun i y hi => ?_⟩
    obtain ⟨u, u1, u2, u3⟩ := hc i y hi
    refine ⟨u, ?_, u2, u3⟩
    rw [List.getElem?_take] at u1
    split at u1
    · rwa [List.getElem?_drop] at u1
    · cases u1
  · cases hT
def isStructC (P : Program) (t : TypeId) : Bool := match P.underlying t with
  | some (.struct _) => true
  | _ => false
def isSliceC (P : Program) (t : TypeId) : Bool := match P.underlying t with
  | some (.slice _) => true
  | _ => false
theorem RdrB.top_struct {t n : Nat} {enc' : α → D} {ok : α → Prop} (R : RdrB P W t n enc' ok B) (hu : isStructC P t = true) (hagg : ∀ a, enc' a = .agg (enc' a).cells) {H : Type} {enc : TypeId × Go.Value → H} {held : Bool} {b0 : Nat} {r : Reach} {v : Go.Value}
    {d : DataW H} {ps : List MemPlace} (hval : Value.okWide P W r b0 t v) (h : DataW.Trod enc P W 0 (fun _ => true) held t v d ps) (hB : uptoBulk d ≤ B) : ∃ a, ok a ∧ Rd g0 W v (enc' a) := by
  obtain ⟨fs, hu⟩ : ∃ fs, P.underlying t = some (.struct fs) := by
    unfold isStructC at hu
    split at hu
    · exact ⟨_, by assumption⟩
    · cases hu
  obtain ⟨cs, rfl, hsz⟩ := okWide_struct hu hval
  obtain ⟨fuel, hf⟩ := h
  obtain ⟨a, ha, hc⟩ := R.rd hf hB
  refine ⟨a, ha, ?_⟩
  rw [hagg a]
  have hcs : (Value.agg cs).cells.toList = cs.toList := rfl
  rw [hcs] at hc
  have hget : ∀ (j : Nat) (y : D), (enc' a).cells[j]? = some y → ∃ u, cs[j]? = some u ∧ u.oneCell' = true ∧ Rd g0 W u y := fun j y hj => by
    obtain ⟨u, u1, u2, u3⟩ := hc j y hj
    exact ⟨u, by simpa using u1, u2, u3⟩
  refine .agg (by rw [hsz, R.sz, R.len]) (fun j => cs.getD j undef) (fun j y hj => ?_) (fun j y hj => ?_)
  · obtain ⟨u, u1, u2, u3⟩ := hget j y hj
    have : cs.getD j undef = u := by simp [Array.getD_eq_getD_getElem?, u1]
    rw [this]; exact ⟨u1, u2⟩
  · obtain ⟨u, u1, u2, u3⟩ := hget j y hj
    have : cs.getD j undef = u := by simp [Array.getD_eq_getD_getElem?, u1]
    rw [this]; exact u3
theorem RdrB.top_list {t : Nat} {enc' : List α → D} {ok : List α → Prop} (R : RdrB P W t 1 enc' ok B) (hu : isSliceC P t = true) (h1 : ∀ a, (enc' a).cells = [enc' a]) {H : Type} {enc : TypeId × Go.Value → H} {held : Bool} {b0 : Nat} {r : Reach} {v : Go.Value}
    {d : DataW H} {ps : List MemPlace} (hval : Value.okWide P W r b0 t v) (h : DataW.Trod enc P W 0 (fun _ => true) held t v d ps) (hB : uptoBulk d ≤ B) : ∃ a, ok a ∧ Rd g0 W v (enc' a) := by
  obtain ⟨e, hu⟩ : ∃ e, P.underlying t = some (.slice e) := by
    unfold isSliceC at hu
    split at hu
    · exact ⟨_, by assumption⟩
    · cases hu
  obtain ⟨a0, len, cap, rfl⟩ := okWide_slice hu hval
  obtain ⟨fuel, hf⟩ := h
  obtain ⟨a, ha, hc⟩ := R.rd hf hB
  obtain ⟨u, u1, u2, u3⟩ := hc 0 (enc' a) (by rw [h1]; rfl)
  cases u1
  exact ⟨a, ha, u3⟩
end
end Go.Sh
