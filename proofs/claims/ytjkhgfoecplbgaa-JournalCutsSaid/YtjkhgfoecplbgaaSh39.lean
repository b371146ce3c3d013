/- A region that draws its order: loads of one's own box that may come behind the effects are taken first. -/
import Derived.Test.YtjkhgfoecplbgaaSh38
set_option linter.all false
set_option autoImplicit true
set_option relaxedAutoImplicit true
set_option linter.unusedVariables false
set_option linter.unusedSimpArgs false
namespace Go.Sh
section
variable {P : Program}

/-- A row of cells stays as it is. -/
def KeepsS {α : Type} (P : Program) (m : Sem α) : Prop :=
  ∀ (w w' : World) (x : α) (r : Nat) (c : Array Value) (T : TypeId) (z : Nat × Nat), w.heap[r]? = some (.cells c T z) → m.run P w = .ok x w' → w'.heap[r]? = some (.cells c T z)

theorem KeepsS.pure {α : Type} (x : α) : KeepsS P (Pure.pure x : Sem α) := fun w w' y r c T z h h1 => by
  rw [Sem.run_pure] at h1; cases h1; exact h

theorem KeepsS.halt {α : Type} (hh : Halt) : KeepsS P (Sem.halt hh : Sem α) := fun w w' y r c T z h h1 => by simp [Sem.run] at h1

theorem KeepsS.bind {α β : Type} {m : Sem α} {f : α → Sem β} (h1 : KeepsS P m) (h2 : ∀ x, KeepsS P (f x)) : KeepsS P (m >>= f) := fun w w' y r c T z h h3 => by
  rw [Sem.run_bind] at h3
  cases hm : m.run P w with
  | ok x w1 => rw [hm, Result.andThen_ok] at h3; exact h2 x _ _ _ _ _ _ _ (h1 _ _ _ _ _ _ _ h hm) h3
  | halt y w1 => rw [hm] at h3; cases h3

theorem KeepsS.panic {α : Type} (s : String) : KeepsS P (runtimePanic (.plain s) : Sem α) := fun w w' y r c T z h h1 => by
  unfold runtimePanic at h1
  simp [Sem.run_bind, Go.program, Sem.run, Result.andThen_ok, goPanic] at h1

theorem KeepsS.getObj (r0 : Nat) : KeepsS P (Go.getObj r0) := fun w w' y r c T z h h1 => by
  simp only [Go.getObj, Sem.run] at h1
  split at h1
  · cases h1
  · cases h1; exact h
  · cases h1

theorem KeepsS.setObj (r0 : Nat) (o : Obj) : KeepsS P (Go.setObj r0 o) := fun w w' y r c T z h h1 => by
  simp only [Go.setObj, Sem.run] at h1
  split at h1
  · cases h1
  · rename_i o' hne ho'
    cases h1
    have : r0 ≠ r := by rintro rfl; rw [h] at ho'; cases ho'; exact hne _ _ _ rfl
    simp only [Array.getElem?_setIfInBounds, this, if_false]
    exact h
  · cases h1

theorem KeepsS.choose (q : Question) : KeepsS P (Go.choose q) := fun w w' y r c T z h h1 => by
  simp only [Go.choose, Sem.run] at h1
  split at h1 <;> cases h1 <;> exact h

theorem KeepsS.program : KeepsS P Go.program := fun w w' y r c T z h h1 => by
  simp only [Go.program, Sem.run] at h1
  cases h1; exact h

theorem KeepsS.typeInfo (t : TypeId) : KeepsS P (Go.typeInfo t) := by
  unfold Go.typeInfo
  refine KeepsS.program.bind fun p => ?_
  split
  · exact KeepsS.pure _
  · exact KeepsS.halt _

theorem KeepsS.underlying (t : TypeId) : KeepsS P (Go.underlying t) := by
  unfold Go.underlying
  refine KeepsS.program.bind fun p => ?_
  split
  · exact KeepsS.pure _
  · exact KeepsS.halt _

theorem KeepsS.zeroValue (t : TypeId) : KeepsS P (Go.zeroValue t) := by
  unfold Go.zeroValue
  refine (KeepsS.typeInfo t).bind fun p => ?_
  split
  · exact KeepsS.pure _
  · exact KeepsS.halt _

theorem KeepsS.asInt (v : Value) : KeepsS P (Go.asInt v) := by
  unfold Go.asInt
  refine KeepsS.bind ?_ fun _ => KeepsS.pure _
  unfold asIntOf
  split
  · exact KeepsS.pure _
  · exact KeepsS.halt _
  · exact KeepsS.halt _

theorem KeepsS.load (a : Addr) : KeepsS P (Go.load a) := fun w w' y r c T z h h1 => by
  simp only [Go.load, Sem.run] at h1
  split at h1
  · cases h1; exact h
  · split at h1
    · cases h1; exact h
    · cases h1

theorem KeepsS.loadCellsFrom (a : Addr) : ∀ (n i : Nat) (acc : Array Value), KeepsS P (Go.loadCellsFrom a i n acc)
  | 0, i, acc => KeepsS.pure _
  | n + 1, i, acc => by
    unfold Go.loadCellsFrom
    exact (KeepsS.load _).bind fun v => KeepsS.loadCellsFrom a n _ _

theorem KeepsS.loadAt (t : TypeId) (x : Value) : KeepsS P (Instr.loadAt t x) := by
  unfold Instr.loadAt
  refine KeepsS.bind ?_ fun a => ?_
  · unfold Instr.sureAddr
    split
    · exact KeepsS.pure _
    · exact KeepsS.halt _
  · unfold loadVar
    refine KeepsS.bind ?_ fun b => ?_
    · unfold isAgg
      refine (KeepsS.underlying t).bind fun d => ?_
      split <;> exact KeepsS.pure _
    · split
      · refine KeepsS.bind ?_ fun n => KeepsS.bind (KeepsS.loadCellsFrom _ _ _ _) fun _ => KeepsS.pure _
        unfold sizeOf
        exact (KeepsS.typeInfo t).bind fun _ => KeepsS.pure _
      · exact KeepsS.load _

theorem KeepsS.extract (t : Value) (i : Nat) : KeepsS P (Instr.extract t i) := by
  unfold Instr.extract
  split
  · split
    · exact KeepsS.pure _
    · exact KeepsS.halt _
  · exact KeepsS.halt _

/-- The keys are strings. -/
def strKeyB (P : Program) (T : TypeId) : Bool := match P.underlying T with | some (.map k _) => (match P.underlying k with | some .string => true | _ => false) | _ => false

theorem KeepsS.equal {k : TypeId} (hk : P.underlying k = some .string) (x y : Value) : KeepsS P (Op.equal k x y) := fun w w' b r c T z h h1 => by
  unfold Op.equal Op.maxDepth Op.equalIn at h1
  simp only [Sem.run_bind, run_underlying hk, Result.andThen_ok] at h1
  revert h1
  cases x <;> cases y <;> simp (config := { contextual := true }) only [Sem.run_pure, stuck, Sem.run, Result.ok.injEq, reduceCtorEq, false_implies, implies_true, and_imp]
  rintro - rfl
  exact h

theorem KeepsS.findAsking {k : TypeId} (hk : P.underlying k = some .string) (x : Value) : ∀ (es : List MapEntry) (i : Nat), KeepsS P (Instr.findAsking k x es i)
  | [], i => KeepsS.pure _
  | e :: es, i => by
    unfold Instr.findAsking
    refine (KeepsS.equal hk _ _).bind fun b => ?_
    split
    · exact KeepsS.pure _
    · exact KeepsS.findAsking hk x es _

theorem KeepsS.findKey {k : TypeId} (hk : P.underlying k = some .string) (x : Value) (es : List MapEntry) : KeepsS P (Instr.findKey k x es) := by
  unfold Instr.findKey
  refine (KeepsS.underlying k).bind fun d => ?_
  split
  · exact KeepsS.pure _
  · exact KeepsS.findAsking hk x es _

theorem KeepsS.checkKey {k : TypeId} (hk : P.underlying k = some .string) (e : Bool) (n : Nat) (x : Value) : KeepsS P (Instr.checkKey e (n + 1) k x) := fun w w' b r c T z h h1 => by
  unfold Instr.checkKey at h1
  simp only [Sem.run_bind, run_underlying hk, Result.andThen_ok] at h1
  revert h1
  cases x <;> simp only [Sem.run_pure] <;> intro h1 <;> cases h1 <;> exact h

theorem KeepsS.keyThatStays (x y : Value) : KeepsS P (Instr.keyThatStays x y) := by
  unfold Instr.keyThatStays
  split
  · exact KeepsS.pure _
  · refine KeepsS.bind (KeepsS.choose _) fun n => KeepsS.pure _

theorem KeepsS.under {T : TypeId} {d : TypeDesc} (hd : P.underlying T = some d) {α : Type} {f : TypeDesc → Sem α} (h : KeepsS P (f d)) : KeepsS P (Go.underlying T >>= f) := fun w w' y r c T' z h0 h1 => by
  rw [Sem.run_bind, run_underlying hd, Result.andThen_ok] at h1
  exact h _ _ _ _ _ _ _ h0 h1

theorem KeepsS.mapEntry {T : TypeId} (hT : strKeyB P T = true) (m key : Value) : KeepsS P (Instr.mapEntry T m key) := by
  unfold strKeyB at hT
  split at hT
  · rename_i k e hk
    split at hT
    · rename_i hs
      unfold Instr.mapEntry
      refine KeepsS.under hk ?_
      simp only
      split
      · exact KeepsS.panic _
      · refine (KeepsS.getObj _).bind fun o => ?_
        split
        · refine (KeepsS.checkKey hs _ _ _).bind fun _ => (KeepsS.findKey hs _ _).bind fun o' => ?_
          split
          · exact (KeepsS.keyThatStays _ _).bind fun _ => (KeepsS.setObj _ _).bind fun _ => KeepsS.pure _
          · exact (KeepsS.zeroValue _).bind fun _ => (KeepsS.setObj _ _).bind fun _ => KeepsS.pure _
        · exact KeepsS.halt _
      · exact KeepsS.halt _
    · cases hT
  · cases hT

theorem KeepsS.entryStore (T : TypeId) (m s x : Value) : KeepsS P (Instr.entryStore T m s x) := by
  unfold Instr.entryStore
  split
  · refine (KeepsS.getObj _).bind fun o => ?_
    split
    · refine (KeepsS.asInt _).bind fun _ => ?_
      split
      · exact KeepsS.setObj _ _
      · exact KeepsS.halt _
    · exact KeepsS.halt _
  · exact KeepsS.halt _

theorem KeepsS.isAgg (t : TypeId) : KeepsS P (Go.isAgg t) := by
  unfold Go.isAgg
  refine (KeepsS.underlying t).bind fun d => ?_
  split <;> exact KeepsS.pure _

theorem KeepsS.part (t : TypeId) (cs : Array Value) (off : Nat) : KeepsS P (Go.part t cs off) := by
  unfold Go.part
  refine (KeepsS.isAgg t).bind fun b => ?_
  split
  · refine KeepsS.bind ?_ fun n => KeepsS.pure _
    unfold sizeOf
    exact (KeepsS.typeInfo t).bind fun _ => KeepsS.pure _
  · split
    · exact KeepsS.pure _
    · exact KeepsS.halt _

theorem KeepsS.followBlind : ∀ (l : List FieldStep) (t : TypeId) (x : Option Value), KeepsS P (Go.followBlind l t x)
  | [], t, x => KeepsS.pure _
  | s :: rest, t, x => by
    unfold Go.followBlind
    refine (KeepsS.underlying _).bind fun d => ?_
    split
    · split
      · split
        · exact KeepsS.pure _
        · exact KeepsS.followBlind rest _ _
        · exact KeepsS.halt _
        · exact KeepsS.pure _
        · exact (KeepsS.part _ _ _).bind fun _ => KeepsS.followBlind rest _ _
        · exact KeepsS.halt _
        · exact KeepsS.followBlind rest _ _
      · exact KeepsS.halt _
    · exact KeepsS.halt _

theorem KeepsS.nilAhead : ∀ (n : Nat) (t : TypeId) (v : Value) (nm : String), KeepsS P (Go.nilAhead n t v nm)
  | 0, t, v, nm => KeepsS.pure _
  | n + 1, t, v, nm => by
    unfold Go.nilAhead
    refine (KeepsS.typeInfo _).bind fun ti => ?_
    split
    · refine (KeepsS.followBlind _ _ _).bind fun r => ?_
      split
      · exact KeepsS.pure _
      · split
        · exact KeepsS.nilAhead n _ _ _
        · exact KeepsS.pure _
        · exact KeepsS.halt _
        · exact KeepsS.pure _
        · exact KeepsS.pure _
        · refine (KeepsS.underlying _).bind fun d => ?_
          split <;> exact KeepsS.pure _
    · exact KeepsS.halt _

theorem KeepsS.nilDeref {α : Type} : KeepsS P (runtimePanic .nilDeref : Sem α) := fun w w' y r c T z h h1 => by
  unfold runtimePanic at h1
  simp [Sem.run_bind, Go.program, Sem.run, Result.andThen_ok, goPanic] at h1

def fieldB (P : Program) (s : TypeId) (f : Nat) : Bool := match P.underlying s with
  | some (.struct fs) => (match fs[f]? with | some fl => ((P.info? fl.type).map fun i => i.size != 0).getD false | none => false)
  | _ => false

theorem fieldB_run {s : TypeId} {f : Nat} (h : fieldB P s f = true) : ∃ off : Nat, ∀ (k o : Nat) (w : World), (Instr.fieldAt s (.pointer (some ⟨k, o, none⟩)) f).run P w = .ok (.pointer (some ⟨k, o + off, none⟩)) w := by
  unfold fieldB at h
  split at h
  · rename_i fs hs
    split at h
    · rename_i fl hf
      cases hi : P.info? fl.type with
      | none => rw [hi] at h; cases h
      | some i =>
        rw [hi] at h
        simp only [Option.map_some, Option.getD_some, bne_iff_ne, ne_eq] at h
        refine ⟨fl.offset, fun k o w => ?_⟩
        have hti : ∀ w, (Go.typeInfo fl.type).run P w = .ok i w := fun w => by
          unfold Go.typeInfo Go.program
          simp [Sem.run_bind, Sem.run, hi]
        simp only [Instr.fieldAt, Sem.run_bind, run_underlying hs, Result.andThen_ok, hf, Instr.sureAddr, Sem.run_pure, fieldPlace, sizeOf, hti, h, if_false]
        unfold Addr.add
        split
        · rename_i h0; rw [h0]; rfl
        · rfl
    · cases h
  · cases h

theorem KeepsS.fieldAt {s : TypeId} {f : Nat} (h : fieldB P s f = true) (x : Value) : KeepsS P (Instr.fieldAt s x f) := by
  unfold fieldB at h
  split at h
  · rename_i fs hs
    split at h
    · rename_i fl hf
      cases hi : P.info? fl.type with
      | none => rw [hi] at h; cases h
      | some i =>
        rw [hi] at h
        simp only [Option.map_some, Option.getD_some, bne_iff_ne, ne_eq] at h
        unfold Instr.fieldAt
        refine KeepsS.under hs ?_
        simp only [hf]
        refine KeepsS.bind ?_ fun a => ?_
        · unfold Instr.sureAddr
          split
          · exact KeepsS.pure _
          · exact KeepsS.halt _
        · refine KeepsS.bind ?_ fun _ => KeepsS.pure _
          unfold fieldPlace
          intro w w' y r c T z h0 h1
          have hti : ∀ w, (Go.typeInfo fl.type).run P w = .ok i w := fun w => by
            unfold Go.typeInfo Go.program
            simp [Sem.run_bind, Sem.run, hi]
          simp only [Sem.run_bind, sizeOf, hti, Result.andThen_ok, Sem.run_pure, h, if_false] at h1
          cases h1
          exact h0
    · cases h
  · cases h

/-- What may stand between: no row of cells is written, nothing is entered. -/
def keepsB (P : Program) (o : Oper) : Bool := match o.op with
  | .move _ | .assign _ | .extract _ _ | .load _ _ | .entryStore _ _ _ _ | .nilCheck _ => true
  | .fieldAddr s _ f => fieldB P s f
  | .mapEntry T _ _ => strKeyB P T
  | _ => false

def plainN : Next → Bool | .value _ | .skip => true | _ => false

theorem keepsB_v {m : Sem Value} (h : KeepsS P m) {w w' : World} {n : Next} {r : Nat} {c : Array Value} {T : TypeId} {z : Nat × Nat} (h0 : w.heap[r]? = some (.cells c T z)) (h1 : (do pure (.value (← m)) : Sem Next).run P w = .ok n w') :
    w'.heap[r]? = some (.cells c T z) ∧ plainN n = true := by
  refine ⟨KeepsS.bind h (fun _ => KeepsS.pure _) _ _ _ _ _ _ _ h0 h1, ?_⟩
  rw [Sem.run_bind] at h1
  cases hm : m.run P w with
  | ok x w1 => rw [hm, Result.andThen_ok, Sem.run_pure] at h1; cases h1; rfl
  | halt y w1 => rw [hm] at h1; cases h1

theorem keepsB_u {m : Sem Unit} (h : KeepsS P m) {w w' : World} {n : Next} {r : Nat} {c : Array Value} {T : TypeId} {z : Nat × Nat} (h0 : w.heap[r]? = some (.cells c T z)) (h1 : (do m; pure .skip : Sem Next).run P w = .ok n w') :
    w'.heap[r]? = some (.cells c T z) ∧ plainN n = true := by
  refine ⟨KeepsS.bind h (fun _ => KeepsS.pure _) _ _ _ _ _ _ _ h0 h1, ?_⟩
  rw [Sem.run_bind] at h1
  cases hm : m.run P w with
  | ok x w1 => rw [hm, Result.andThen_ok, Sem.run_pure] at h1; cases h1; rfl
  | halt y w1 => rw [hm] at h1; cases h1

def PlainS (P : Program) (m : Sem Next) : Prop := ∀ (w : World) (n : Next) (w' : World), m.run P w = .ok n w' → plainN n = true
theorem PlainS.bind {α : Type} {m : Sem α} {f : α → Sem Next} (h2 : ∀ x, PlainS P (f x)) : PlainS P (m >>= f) := fun w n w' h => by
  rw [Sem.run_bind] at h
  cases hm : m.run P w with
  | ok x w1 => rw [hm, Result.andThen_ok] at h; exact h2 x _ _ _ h
  | halt y w1 => rw [hm] at h; cases h

theorem keepsB_n {m : Sem Next} (h : KeepsS P m) {w w' : World} {n : Next} {r : Nat} {c : Array Value} {T : TypeId} {z : Nat × Nat} (hn : ∀ w n w', m.run P w = .ok n w' → plainN n = true) (h0 : w.heap[r]? = some (.cells c T z)) (h1 : m.run P w = .ok n w') :
    w'.heap[r]? = some (.cells c T z) ∧ plainN n = true := ⟨h _ _ _ _ _ _ _ h0 h1, hn _ _ _ h1⟩

theorem keepsB_spec {o : Oper} (h : keepsB P o = true) {ρ : Operand → Value} {w w' : World} {n : Next} {r : Nat} {c : Array Value} {T : TypeId} {z : Nat × Nat} (h0 : w.heap[r]? = some (.cells c T z)) (h1 : (execOp ρ o).run P w = .ok n w') :
    w'.heap[r]? = some (.cells c T z) ∧ plainN n = true := by
  unfold keepsB at h
  unfold execOp at h1
  split at h <;> rename_i hop <;> simp only [hop] at h1
  · rw [Sem.run_pure] at h1; cases h1; exact ⟨h0, rfl⟩
  · rw [Sem.run_pure] at h1; cases h1; exact ⟨h0, rfl⟩
  · exact keepsB_v (KeepsS.extract _ _) h0 h1
  · exact keepsB_v (KeepsS.loadAt _ _) h0 h1
  · exact keepsB_u (KeepsS.entryStore _ _ _ _) h0 h1
  · split at h1
    · exact absurd h1 (by intro h1; have := h1; unfold runtimePanic at this; simp [Sem.run_bind, Go.program, Sem.run, Result.andThen_ok, goPanic] at this)
    · exact absurd h1 (by intro h1; have := h1; unfold runtimePanic at this; simp [Sem.run_bind, Go.program, Sem.run, Result.andThen_ok, goPanic] at this)
    · exact absurd h1 (by intro h1; have := h1; unfold runtimePanic at this; simp [Sem.run_bind, Go.program, Sem.run, Result.andThen_ok, goPanic] at this)
    · split at h1
      · exact absurd h1 (by intro h1; have := h1; unfold runtimePanic at this; simp [Sem.run_bind, Go.program, Sem.run, Result.andThen_ok, goPanic] at this)
      · refine keepsB_n ?_ ?_ h0 h1
        · refine KeepsS.program.bind fun _ => (KeepsS.nilAhead _ _ _ _).bind fun _ => ?_
          split
          · exact KeepsS.halt _
          · exact KeepsS.pure _
        · refine PlainS.bind fun _ => PlainS.bind fun _ => ?_
          split
          · exact fun w n w' h => by simp [unsupported, Sem.run, Result.andThen, Sem.run_bind] at h
          · exact fun w n w' h => by rw [Sem.run_pure] at h; cases h; rfl
      · rw [Sem.run_pure] at h1; cases h1; exact ⟨h0, rfl⟩
    · rw [Sem.run_pure] at h1; cases h1; exact ⟨h0, rfl⟩
  · exact keepsB_v (KeepsS.fieldAt h _) h0 h1
  · exact keepsB_v (KeepsS.mapEntry h _ _) h0 h1
  · cases h
end
end Go.Sh
