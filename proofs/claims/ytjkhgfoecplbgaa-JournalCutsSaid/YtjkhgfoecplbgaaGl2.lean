/- JournalCuts: the given statement. -/
import Derived.Test.YtjkhgfoecplbgaaW8
import Derived.Test.YtjkhgfoecplbgaaGl1
import Derived.Test.YtjkhgfoecplbgaaRows
import Derived.WalkKit
import Derived.ProofKit
import Derived.OpenShut
import Derived.JoinedOf
import Derived.Handed
import Derived.WideKeyArgs
import Derived.ChangeSame
set_option linter.all false
set_option autoImplicit true
set_option relaxedAutoImplicit true
set_option linter.unusedVariables false
set_option linter.unusedSimpArgs false
set_option maxRecDepth 100000
namespace Go.Sh
open Go.ChangeShapes Go.WideShapes Go.ChangeAt Go.RowKit

theorem take1_get {cs : List Value} {o : Nat} {v : Value} (h : (cs.drop o).take 1 = [v]) : cs[o]? = some v := by
  have := congrArg (fun l => l[0]?) h
  simpa using this

theorem mk_eta (s : ByteArray) : Value.string s = .string (mk s.data.toList) := by
  obtain ⟨⟨l⟩⟩ := s
  rfl

/-- What a frame of ours says of the world. -/
theorem Fr.kept {w w' : World} {g' : Gh} {pu : Bool} (h : Fr pu g0 w g' w') (may : MemPlace → Prop) : w.keptBut w' may := by
  refine ⟨h.os.1, h.os.2, fun i hi => ?_⟩
  have := h.free i w.heap[i] rfl (by simp [hi])
  rw [this.2, Array.getElem?_eq_getElem hi]
  cases w.heap[i] <;> simp

theorem Fr.same {w w' : World} {g' : Gh} {pu : Bool} (h : Fr pu g0 w g' w') {p : MemPlace} (hp : p.block < w.heap.size) : w.sameAt w' p := by
  have := fun (i : Nat) (hi : i < w.heap.size) => h.free i w.heap[i] rfl (by simp [hi])
  cases p with
  | cell b off =>
    have hb : b < w.heap.size := hp
    show w'.cell? _ = w.cell? _
    unfold World.cell?
    simp only
    rw [(this b hb).2, Array.getElem?_eq_getElem hb]
  | map b =>
    have hb : b < w.heap.size := hp
    show w'.heap[b]? = w.heap[b]?
    rw [(this b hb).2, Array.getElem?_eq_getElem hb]

theorem Fr.fz {w w' : World} {g' : Gh} {pu : Bool} (h : Fr pu g0 w g' w') {a : Addr} (ha : a.block < w.heap.size) : w'.frozen? a = w.frozen? a := by
  have := h.free a.block w.heap[a.block] rfl (by simp [ha])
  unfold World.frozen?
  rw [this.2, Array.getElem?_eq_getElem ha]

variable {H : Type} {enc : TypeId × Value → H} {P : Program}

/-- 'post_of_same', where only the flags of what was there are known. -/
theorem post_same {f : Func} {s : ChangeSpec} {apart fresh handsOn again : Bool} {W W' : World} {args : Array Value} {v : Value} {ds gs : List (DataW H)} {before pa pv : List MemPlace}
    (hW : DataW.Whole enc P f.params.toList s.vars apart W args.toList ds gs before)
    (hres : ∀ (b : Nat) (sp : Nat → Bool) (hd : Bool), DataW.TrodAll enc P W' b sp hd f.resultTypes.toList (v.resultList f.resultTypes.size) (s.fn H (ds ++ gs)).results [])
    (hargs : ∀ sp : Nat → Bool, (∀ p ∈ before, sp p.block = true) → DataW.TrodAll enc P W' 0 sp true f.params.toList args.toList (s.fn H (ds ++ gs)).args pa)
    (hvars : ∀ sp : Nat → Bool, (∀ p ∈ before, sp p.block = true) → DataW.TrodVars enc P W' sp s.vars (s.fn H (ds ++ gs)).vars pv)
    (hps : before = pa ++ pv) (hk : W.keptBut W' (· ∈ before)) (hfz : ∀ a : Addr, a.block < W.heap.size → W'.frozen? a = W.frozen? a)
    (hok : ∀ (j : Nat) (t : TypeId) (r : Value), f.resultTypes[j]? = some t → (v.resultList f.resultTypes.size)[j]? = some r → Value.okWide P W' .any 0 t r) :
    s.post enc P f apart fresh handsOn again W args v W' := by
  have hlt := hW.lt
  have hold : ∀ p ∈ before, (fun b => decide (b < W.heap.size)) p.block = true := fun p hp => by simpa using hlt p hp
  refine ⟨ds, gs, before, [], pa, pv, hW, hres _ _ _, hargs _ hold, hvars _ hold, World.keptBut_mono (fun p hp => ⟨hp, ?_⟩) hk, fun _ => ?_⟩
  · rw [hps, List.mem_append] at hp
    exact Or.inr hp
  · obtain ⟨_, _, _, _, _, hz, hn⟩ := hW
    refine ⟨hok, _, _, ([] ++ pa) ++ pv, ⟨[] ++ pa, pv, trodAll_append (hargs _ (fun _ _ => rfl)) (hres _ _ _), hvars _ (fun _ _ => rfl), rfl, ?_, ?_⟩, ?_⟩
    · intro b off hp
      have hp' : MemPlace.cell b off ∈ before := by rw [hps]; simpa using hp
      rw [hfz _ (hlt _ hp')]
      exact hz b off hp'
    · intro ha
      have := hn ha
      rw [hps] at this
      simpa using this
    · intro p hp _
      rw [hps]
      simpa using hp

def fldB (P : Program) (e : TypeId) (j o : Nat) (q : TypeDesc → Bool) : Bool := match P.underlying e with
  | some (.struct fs) => (match fs[j]? with | some f => f.offset == o && P.cellsOf f.type == 1 && ((P.underlying f.type).map q).getD false | none => false)
  | _ => false

theorem fldB_spec {W : World} {held : Bool} {sp : Nat → Bool} {base : Nat} {e : TypeId} {j o : Nat} {q : TypeDesc → Bool} {fuel : Nat} {cs : List Value} {x : DataW H × List MemPlace} (h : fldB P e j o q = true) (hx : DataW.trod enc P W base sp held fuel e cs = some x) :
    ∃ (t : TypeId) (n : Nat) (y : DataW H × List MemPlace) (d : TypeDesc), P.underlying t = some d ∧ q d = true ∧ DataW.trod enc P W base sp held n t ((cs.drop o).take 1) = some y := by
  unfold fldB at h
  split at h
  · rename_i fs hs
    obtain ⟨xs, n, -, -, hl, hlen, hf⟩ := DataW.trod_struct hs hx
    split at h
    · rename_i f hfj
      simp only [Bool.and_eq_true, beq_iff_eq] at h
      obtain ⟨⟨h1, h2⟩, h3⟩ := h
      cases hd : P.underlying f.type with
      | none => rw [hd] at h3; cases h3
      | some d =>
        rw [hd] at h3
        have := hf j f hfj
        rw [h1, h2] at this
        have hj : j < xs.length := by rw [hlen]; exact (Array.getElem?_eq_some_iff.1 hfj).1
        rw [List.getElem?_eq_getElem hj] at this
        exact ⟨f.type, n, _, d, hd, h3, this⟩
    · cases h
  · cases h

def isS : TypeDesc → Bool | .string => true | _ => false
def isB : TypeDesc → Bool | .bool => true | _ => false
def isI : TypeDesc → Bool | .int .i64 => true | _ => false

theorem fldS {W : World} {held : Bool} {sp : Nat → Bool} {base : Nat} {e : TypeId} {j o : Nat} {fuel : Nat} {cs : List Value} {x : DataW H × List MemPlace} (h : fldB P e j o isS = true) (hx : DataW.trod enc P W base sp held fuel e cs = some x) :
    ∃ l : List UInt8, cs[o]? = some (.string (mk l)) := by
  obtain ⟨t, n, y, d, h1, h2, h3⟩ := fldB_spec h hx
  cases d <;> simp only [isS, Bool.false_eq_true] at h2
  obtain ⟨s, hs, -⟩ := DataW.trod_string h1 h3
  exact ⟨s.data.toList, by rw [take1_get hs, mk_eta]⟩
theorem fldBo {W : World} {held : Bool} {sp : Nat → Bool} {base : Nat} {e : TypeId} {j o : Nat} {fuel : Nat} {cs : List Value} {x : DataW H × List MemPlace} (h : fldB P e j o isB = true) (hx : DataW.trod enc P W base sp held fuel e cs = some x) :
    ∃ b : Bool, cs[o]? = some (.bool b) := by
  obtain ⟨t, n, y, d, h1, h2, h3⟩ := fldB_spec h hx
  cases d <;> simp only [isB, Bool.false_eq_true] at h2
  obtain ⟨s, hs, -⟩ := DataW.trod_bool h1 h3
  exact ⟨s, take1_get hs⟩
theorem fldI {W : World} {held : Bool} {sp : Nat → Bool} {base : Nat} {e : TypeId} {j o : Nat} {fuel : Nat} {cs : List Value} {x : DataW H × List MemPlace} (h : fldB P e j o isI = true) (hx : DataW.trod enc P W base sp held fuel e cs = some x) :
    ∃ n : Int, cs[o]? = some (.int .i64 n) := by
  obtain ⟨t, n, y, d, h1, h2, h3⟩ := fldB_spec h hx
  cases d <;> simp only [isI, Bool.false_eq_true] at h2
  rename_i k
  cases k <;> simp only [Bool.false_eq_true] at h2
  obtain ⟨s, hs, -⟩ := DataW.trod_int h1 h3
  exact ⟨s, take1_get hs⟩
end Go.Sh

namespace Go.Proofs
open Go.Sh Go.ChangeShapes Go.WideShapes Go.ChangeAt Go.RowKit Go.Proofs.Ytjkhgfoecplbgaa

theorem read_images {H : Type} {enc : TypeId × Value → H} {W : World} {held : Bool} {b0 : Nat} {r : Reach} {v : Value} {d : DataW H} {ps : List MemPlace} (hval : Value.okWide Try.prog W r b0 22 v) (h : DataW.Trod enc Try.prog W 0 (fun _ => true) held 22 v d ps) :
    ∃ l : List Image, Rd g0 W v (.list 3 (l.map encImage)) := by
  refine rd_list_of_trod (P := Try.prog) encImage (n := 3) (e := 41) (by omega) (fun x => rfl) (by kernel_rfl) (by kernel_rfl) hval (fun fuel cs' x hx => ?_) h
  obtain ⟨a0, e0⟩ := fldS (j := 0) (o := 0) (by kernel_rfl) hx
  obtain ⟨a1, e1⟩ := fldBo (j := 1) (o := 1) (by kernel_rfl) hx
  obtain ⟨a2, e2⟩ := fldS (j := 2) (o := 2) (by kernel_rfl) hx
  refine ⟨⟨a0, a1, a2⟩, fun j y hj => ?_⟩
  have hc : (encImage ⟨a0, a1, a2⟩).cells = [.str a0, .bool a1, .str a2] := rfl
  rw [hc] at hj
  match j, hj with
  | 0, hj => cases hj; exact ⟨_, e0, rfl, .str⟩
  | 1, hj => cases hj; exact ⟨_, e1, rfl, .bool⟩
  | 2, hj => cases hj; exact ⟨_, e2, rfl, .str⟩
  | j + 3, hj => simp at hj

theorem read_notes {H : Type} {enc : TypeId × Value → H} {W : World} {held : Bool} {b0 : Nat} {r : Reach} {v : Value} {d : DataW H} {ps : List MemPlace} (hval : Value.okWide Try.prog W r b0 23 v) (h : DataW.Trod enc Try.prog W 0 (fun _ => true) held 23 v d ps) :
    ∃ l : List Note, Rd g0 W v (.list 5 (l.map encNote)) := by
  refine rd_list_of_trod (P := Try.prog) encNote (n := 5) (e := 39) (by omega) (fun x => rfl) (by kernel_rfl) (by kernel_rfl) hval (fun fuel cs' x hx => ?_) h
  obtain ⟨a0, e0⟩ := fldI (j := 0) (o := 0) (by kernel_rfl) hx
  obtain ⟨a1, e1⟩ := fldI (j := 1) (o := 1) (by kernel_rfl) hx
  obtain ⟨a2, e2⟩ := fldS (j := 2) (o := 2) (by kernel_rfl) hx
  obtain ⟨a3, e3⟩ := fldBo (j := 3) (o := 3) (by kernel_rfl) hx
  obtain ⟨a4, e4⟩ := fldS (j := 4) (o := 4) (by kernel_rfl) hx
  refine ⟨⟨a0, a1, a2, a3, a4⟩, fun j y hj => ?_⟩
  have hc : (encNote ⟨a0, a1, a2, a3, a4⟩).cells = [.int .i64 a0, .int .i64 a1, .str a2, .bool a3, .str a4] := rfl
  rw [hc] at hj
  match j, hj with
  | 0, hj => cases hj; exact ⟨_, e0, rfl, .int⟩
  | 1, hj => cases hj; exact ⟨_, e1, rfl, .int⟩
  | 2, hj => cases hj; exact ⟨_, e2, rfl, .str⟩
  | 3, hj => cases hj; exact ⟨_, e3, rfl, .bool⟩
  | 4, hj => cases hj; exact ⟨_, e4, rfl, .str⟩
  | j + 5, hj => simp at hj
end Go.Proofs
