/- Small things that printed proofs name. -/
import Derived.Test.YtjkhgfoecplbgaaSh17
set_option linter.all false
set_option autoImplicit true
set_option relaxedAutoImplicit true
set_option linter.unusedVariables false
set_option linter.unusedSimpArgs false
namespace Go.Sh
section
variable {P : Program} {pu : Bool} {st : St} {ops : Array Oper} {k : Nat} {Q : St → Prop}
theorem OBk.done {m : Nat} (h : decide (m ≤ k) = true) (hq : Q st) : OBk P ops m k st Q := OBk.fin (eq_true (of_decide_eq_true h)) hq
theorem OBk.segB {m : Nat} (steal L : List Nat) (n : Nat) {st' : St} (hm : decide (k + n ≤ m) = true) (hr : (runSegB P steal ops n k st).bind (keepR L) = some st') (h : OBk P ops m (k + n) st' Q) : OBk P ops m k st Q := OBk.segK steal L n (eq_true (of_decide_eq_true hm)) hr h
theorem OBk.mergeB {m : Nat} (L : List Nat) (n : Nat) (b : Bool) (S S' : Bool → St) (hm : decide (k + n ≤ m) = true) (h0 : st = S b) (hT : (runSegB P [] ops n k (S true)).bind (keepR L) = some (S' true)) (hF : (runSegB P [] ops n k (S false)).bind (keepR L) = some (S' false))
    (h : OBk P ops m (k + n) (S' b) Q) : OBk P ops m k st Q := OBk.mergeK L n b S S' (eq_true (of_decide_eq_true hm)) h0 hT hF h
theorem OBk.atB {m : Nat} {d : Option Tmp} {s : SV} {st' : St} (L : List Nat) (hm : decide (k < m) = true) (hb : BAt P ops k st d s) (hst : keepR L (st.put d s) = some st') (h : OBk P ops m (k + 1) st' Q) : OBk P ops m k st Q := OBk.at_ L (eq_true (of_decide_eq_true hm)) hb hst h
theorem SW.regionDk {Q : Exit → St → Prop} {id : Nat} {l : List Oper} (hm : P.follows .mixedOrders = true) (hB : Region.lexB .any l.toArray = true) (h : OBk P l.toArray l.toArray.size 0 st (Q .normal)) : SW P pu (.region id l.toArray true) st Q := SW.regionD hm hB h
theorem OWk.done (h : decide (ops.size ≤ k) = true) (hq : Q st) : OWk P pu ops k st Q := OWk.fin (eq_true (of_decide_eq_true h)) hq
end
theorem room_map {α : Type} {f : α → D} {l : List α} (h : decide (l.length ≤ room) = true) : (l.map f).length ≤ room := by
  rw [List.length_map]; exact of_decide_eq_true h
theorem map_append' {α : Type} {f : α → D} {xs ys : List α} : xs.map f ++ ys.map f = (xs ++ ys).map f := (List.map_append).symm
theorem map_appendS {xs : List Int} {s : List UInt8} : xs.map (D.int .u8) ++ byteDs s = (xs ++ nums s).map (D.int .u8) := by rw [byteDs_nums, List.map_append]
theorem sum_l {α β γ : Type} {f : α → γ} {g : β → γ} {x : α} {r : γ} (h : Sum.elim f g (.inl x) = r) : f x = r := h
theorem sum_r {α β γ : Type} {f : α → γ} {g : β → γ} {x : β} {r : γ} (h : Sum.elim f g (.inr x) = r) : g x = r := h

def iBits.and (k : IntKind) (x y : Int) : Int := k.wrap (BitVec.ofInt k.bits x &&& BitVec.ofInt k.bits y).toNat
def iBits.or (k : IntKind) (x y : Int) : Int := k.wrap (BitVec.ofInt k.bits x ||| BitVec.ofInt k.bits y).toNat
def iBits.xor (k : IntKind) (x y : Int) : Int := k.wrap (BitVec.ofInt k.bits x ^^^ BitVec.ofInt k.bits y).toNat
def iBits.andNot (k : IntKind) (x y : Int) : Int := k.wrap (BitVec.ofInt k.bits x &&& ~~~(BitVec.ofInt k.bits y)).toNat
end Go.Sh
namespace Go.Sh
/-- A truth value is known: the state with it. -/
theorem SW.case {P : Program} {pu : Bool} {st : St} {c : Code} {Q : Exit → St → Prop} (b : Bool) (S : Bool → St) (h0 : st = S b) (hT : b = true → SW P pu c (S true) Q) (hF : b = false → SW P pu c (S false) Q) : SW P pu c st Q := by
  subst h0
  cases b
  · exact hF rfl
  · exact hT rfl
end Go.Sh

namespace Go.Sh
def iShl (k : IntKind) (a b : Int) : Int := k.wrap (a * 2 ^ (min b.toNat k.bits))
def iShr (k : IntKind) (a b : Int) : Int := a.fdiv (2 ^ (min b.toNat k.bits))

section
variable {P : Program} {st : St} {ops : Array Oper} {k : Nat}
def shAt (ops : Array Oper) (k : Nat) (st : St) : Option (Option Tmp × Bool × IntKind × Int × Int) :=
  match opAt ops k st with
  | some o => match o.op with
    | .binOp op T x y yT => match (if op matches .shl then some true else if op matches .shr then some false else none), valD st x, valD st y with
      | some l, some (.int kk a), some (.int _ b) => some (o.dst, l, kk, a, b)
      | _, _, _ => none
    | _ => none
  | none => none

theorem BAt.shift {d : Option Tmp} {l : Bool} {kk : IntKind} {a b : Int} (h0 : decide (0 ≤ b) = true) (h : shAt ops k st = some (d, l, kk, a, b)) : BAt P ops k st d (.d (.int kk (bif l then iShl kk a b else iShr kk a b))) := by
  have h0 : ¬ b < 0 := by have := of_decide_eq_true h0; omega
  unfold shAt at h
  split at h
  · rename_i o ho
    split at h
    · rename_i op T x y yT hop
      split at h
      · rename_i l' kk' a' kb b' hl hx hy
        simp only [Option.some.injEq, Prod.mk.injEq] at h
        obtain ⟨rfl, rfl, rfl, rfl, rfl⟩ := h
        obtain ⟨h1, h2⟩ := opAt_inv ho
        refine ⟨o, h1, h2, BStep.of_bop ?_, rfl, rfl⟩
        cases op <;> simp only [reduceCtorEq, if_false, Bool.false_eq_true, if_true, Option.some.injEq] at hl
        all_goals (subst hl; simp only [bop, hop, binS, hx, hy, Option.bind_some, leafV, backD, leafRun, eqGuard, Go.binOp, Op.shift, iShl, iShr]; first | done | skip)
        all_goals simp [leafRun, h0, leafD, iShl, iShr, bind, Sem.bind, pure]
      · cases h
    · cases h
  · cases h
end
end Go.Sh

namespace Go.Sh
section
variable {P : Program} {pu : Bool} {st : St}

/-- Where several ways meet: what they hand on. -/
def letJ {α β : Type} (b : α → β) (a : (α → β) → β) : β := a b
theorem letJ_inv {α β : Type} {b : α → β} {a : (α → β) → β} {r : β} (h : letJ b a = r) : ∃ jp, jp = b ∧ a jp = r := ⟨b, rfl, h⟩

theorem SW.seqJ {α : Type} {x y : Code} {Q : Exit → St → Prop} (L : List Nat) (S : α → St) (C : α → Prop) (hj : ∀ v, C v → SW P pu y (S v) Q) (h : SW P pu x st (thenS (fun s => ∃ v l, keepR L (s.nils l) = some (S v) ∧ C v) Q)) : SW P pu (.seq x y) st Q := by
  refine SW.seq ?_
  intro a w g hr
  refine Code.wp_mono (fun e a' w' hh => ?_) (h a w g hr)
  obtain ⟨st', g', q, r, f⟩ := hh
  cases e with
  | normal =>
    obtain ⟨v, l, h1, h2⟩ := q
    exact ⟨S v, g', hj v h2, r.nils.keepR h1, f⟩
  | _ => exact ⟨st', g', q, r, f⟩
end
end Go.Sh
