/- Contracts of functions over plain data. -/
import Derived.Test.YtjkhgfoecplbgaaS3
import Derived.KernelRfl
set_option linter.all false
set_option autoImplicit true
set_option relaxedAutoImplicit true
namespace Go.Sh
section
variable {P : Program} {st : St} {ops : Array Oper} {k : Nat}
def dvAt (ops : Array Oper) (k : Nat) (st : St) : Option (Option Tmp × Bool × IntKind × Int × Int) :=
  match opAt ops k st with
  | some o => match o.op with
    | .binOp op T x y yT => match (if op matches .quo then some true else if op matches .rem then some false else none), valD st x, valD st y with
      | some l, some (.int kk a), some (.int kk' b) => if kk = kk' then some (o.dst, l, kk, a, b) else none
      | _, _, _ => none
    | _ => none
  | none => none
theorem BAt.divi {d : Option Tmp} {l : Bool} {kk : IntKind} {a b : Int} (h0 : decide (b ≠ 0) = true) (h : dvAt ops k st = some (d, l, kk, a, b)) : BAt P ops k st d (.d (.int kk (bif l then kk.wrap (Int.tdiv a b) else Int.tmod a b))) := by
  have h0 : b ≠ 0 := of_decide_eq_true h0
  unfold dvAt at h
  split at h
  · rename_i o ho
    split at h
    · rename_i op T x y yT hop
      split at h
      · rename_i l' kk' a' kb b' hl hx hy
        split at h
        · rename_i hkk
          subst hkk
          simp only [Option.some.injEq, Prod.mk.injEq] at h
          obtain ⟨rfl, rfl, rfl, rfl, rfl⟩ := h
          obtain ⟨h1, h2⟩ := opAt_inv ho
          refine ⟨o, h1, h2, BStep.of_bop ?_, rfl, rfl⟩
          cases op <;> simp only [reduceCtorEq, if_false, Bool.false_eq_true, if_true, Option.some.injEq] at hl
          all_goals (subst hl; simp only [bop, hop, binS, hx, hy, Option.bind_some, leafV, backD, leafRun, eqGuard, Go.binOp, Op.intDiv]; first | done | skip)
          all_goals simp [leafRun, h0, leafD, Op.intDiv, bind, Sem.bind, pure]
        · cases h
      · cases h
    · cases h
  · cases h
end
end Go.Sh
namespace Go.Sh
section
variable {P : Program} {pu : Bool} {ops : Array Oper} {k n : Nat} {l0 : List (Nat × SV)} {H : List SObj}
def dropS : Nat → Code → Code
  | 0, c => c
  | j + 1, c => match c with | .seq _ y => dropS j y | _ => .skip
def runS (P : Program) : Nat → Code → St → Option St
  | 0, _, st => some st
  | j + 1, c, st => match c with
    | .seq (.region _ ops b) y => bif b then none else (runSeg P [] ops ops.size 0 st).bind (runS P j y)
    | _ => none
theorem SW.runS {Q : Exit → St → Prop} : ∀ (j : Nat) (c : Code) (st st' : St), Sh.runS P j c st = some st' → SW P pu (dropS j c) st' Q → SW P pu c st Q
  | 0, c, st, st', h, hn => by cases h; exact hn
  | j + 1, c, st, st', h, hn => by
    simp only [Sh.runS] at h
    split at h
    · rename_i id ops b y
      cases b with
      | true => cases h
      | false =>
        simp only [cond_false, Option.bind_eq_some_iff] at h
        obtain ⟨st1, h1, h2⟩ := h
        refine SW.seq (SW.regionK (OWk.seg (k := 0) ops.size h1 (OWk.done (by simp) ?_)))
        exact SW.runS j y st1 st' h2 hn
    · cases h
theorem SW.R {c : Code} {Q : Exit → St → Prop} (j : Nat) (l : List (Nat × SV)) (hn : SW P pu (dropS j c) (sp n l H) Q) (h : (Sh.runS P j c (sp n l0 H)).bind (pickR n (l.map (·.1))) = some (l, H) := by kernel_rfl) : SW P pu c (sp n l0 H) Q := by
  obtain ⟨st1, h1, h2⟩ := Option.bind_eq_some_iff.1 h
  exact SW.runS j c _ st1 h1 (SW.kp n H _ l h2 hn)
theorem OWk.G {Q : St → Prop} (j : Nat) (l : List (Nat × SV)) (hn : OWk P pu ops (k + j) (sp n l H) Q) (h : (runSeg P [] ops j k (sp n l0 H)).bind (pickR n (l.map (·.1))) = some (l, H) := by kernel_rfl) : OWk P pu ops k (sp n l0 H) Q :=
  OWk.sg n H [] _ j l h hn
theorem OBk.G {m : Nat} {Q : St → Prop} (j : Nat) (l : List (Nat × SV)) (hn : OBk P ops m (k + j) (sp n l H) Q) (hm : decide (k + j ≤ m) = true := by kernel_rfl) (h : (runSegB P [] ops j k (sp n l0 H)).bind (pickR n (l.map (·.1))) = some (l, H) := by kernel_rfl) : OBk P ops m k (sp n l0 H) Q :=
  OBk.sg n H [] _ j l hm h hn
theorem OQk.G {Q : St → Prop} (j : Nat) (l : List (Nat × SV)) (hn : OQk P ops (k + j) (sp n l H) Q) (h : (runSegB P [] ops j k (sp n l0 H)).bind (pickR n (l.map (·.1))) = some (l, H) := by kernel_rfl) : OQk P ops k (sp n l0 H) Q :=
  OQk.sg n H [] _ j l h hn
theorem OWk.D {st : St} {Q : St → Prop} (hq : Q st) (h : decide (ops.size ≤ k) = true := by kernel_rfl) : OWk P pu ops k st Q := OWk.done h hq
theorem OTk.D {st : St} {Q : Exit → St → Prop} (hq : Q .normal st) (h : decide (ops.size ≤ k) = true := by kernel_rfl) : OTk P ops k st Q := OTk.done h hq
theorem OWk.O {Q : St → Prop} {d : Option Tmp} {s : SV} (l : List (Nat × SV)) (hb : BAt P ops k (sp n l0 H) d s) (hn : OWk P pu ops (k + 1) (sp n l H) Q) (hst : pickR n (l.map (·.1)) ((sp n l0 H).put d s) = some (l, H) := by kernel_rfl) : OWk P pu ops k (sp n l0 H) Q :=
  OWk.on n H _ l hb hst hn
theorem OBk.O {m : Nat} {Q : St → Prop} {d : Option Tmp} {s : SV} (l : List (Nat × SV)) (hb : BAt P ops k (sp n l0 H) d s) (hn : OBk P ops m (k + 1) (sp n l H) Q) (hm : decide (k < m) = true := by kernel_rfl) (hst : pickR n (l.map (·.1)) ((sp n l0 H).put d s) = some (l, H) := by kernel_rfl) : OBk P ops m k (sp n l0 H) Q :=
  OBk.on n H _ l hm hb hst hn
theorem OTk.M {Q : Exit → St → Prop} {st : St} (m : Nat) (h : OWk P false (ops.toList.take m).toArray k st (fun s => OTk P ops m s Q)) (hg : guardsB ops k m = true := by kernel_rfl) : OTk P ops k st Q := OTk.pre m hg h
theorem OWk.C {Q : St → Prop} {f : FuncId} {args : List SV} {ls : List Loc} {gs : List (Nat × Nat)} {d : Option Tmp} {r : SV} (tr : List Nat) (l : List (Nat × SV)) (hp : PC P f args r) (hn : OWk P pu ops (k + 1) (sp n l H) Q) (h : callAt P ops k (sp n l0 H) tr = some (d, f, args, ls, gs) := by kernel_rfl) (hr : (resD r && (ls.isEmpty || flatSV r)) = true := by kernel_rfl)
    (hst : pickR n (l.map (·.1)) (((sp n l0 H).takes gs).put d r) = some (l, H) := by kernel_rfl) : OWk P pu ops k (sp n l0 H) Q := OWk.cl n H tr _ l hp h hr hst hn
theorem OWk.C0 {Q : St → Prop} {f : FuncId} {args : List SV} (d : Option Tmp) {r : SV} (l : List (Nat × SV)) (hp : PC P f args r) (hn : OWk P pu ops (k + 1) (sp n l H) Q) (h : callAt P ops k (sp n l0 H) [] = some (d, f, args, [], []) := by kernel_rfl) (hr : resD r = true := by kernel_rfl)
    (hst : pickR n (l.map (·.1)) ((sp n l0 H).put d r) = some (l, H) := by kernel_rfl) : OWk P pu ops k (sp n l0 H) Q := OWk.cl n H [] _ l hp h (by rw [hr]; rfl) hst hn
theorem SW.K {c : Code} {Q : Exit → St → Prop} (l : List (Nat × SV)) (h : SW P pu c (sp n l H) Q) (hst : pickR n (l.map (·.1)) (sp n l0 H) = some (l, H) := by kernel_rfl) : SW P pu c (sp n l0 H) Q := SW.kp n H _ l hst h
theorem SW.B {st : St} {Q : Exit → St → Prop} {c : Operand} {x y : Code} (b : Bool) (hT : b = true → SW P pu x st Q) (hF : b = false → SW P pu y st Q) (hc : valD st c = some (.bool b) := by kernel_rfl) : SW P pu (.cond c x y) st Q := SW.condB hc hT hF
theorem SW.S {Q : Exit → St → Prop} {st : St} {id : Nat} {y : Code} (h : OWk P pu ops 0 st (thenS (fun s => SW P pu y s Q) Q .normal)) : SW P pu (.seq (.region id ops false) y) st Q := SW.seq (SW.regionK h)
theorem OWk.E {st : St} {N : St → Prop} {Q : Exit → St → Prop} (hq : N st) (h : decide (ops.size ≤ k) = true := by kernel_rfl) : OWk P pu ops k st (thenS N Q .normal) := OWk.done h hq
theorem OWk.CH {Q : St → Prop} {f : FuncId} {args : List SV} (d : Option Tmp) {r : SV} {H' : List SObj} (l : List (Nat × SV)) (hp : SC P false f args H r H') (hn : OWk P false ops (k + 1) (sp n l H') Q) (h : callAt P ops k (sp n l0 H) [] = some (d, f, args, [], []) := by kernel_rfl)
    (hr : (resD r && (sp n l0 H).tmps.all noHl) = true := by kernel_rfl) (hst : pickR n (l.map (·.1)) ⟨((sp n l0 H).put d r).tmps, H'⟩ = some (l, H') := by kernel_rfl) : OWk P false ops k (sp n l0 H) Q := OWk.clH n _ l hp h hr hst hn
theorem OTk.B {Q : Exit → St → Prop} {f : FuncId} {args : List SV} (d : Option Tmp) {t : TypeId} {H' : List SObj} (hp : SB P f args H (.boom t H')) (hq : Q (.panic (panV t)) (none_ n H')) (h : callAt P ops k (sp n l0 H) [] = some (d, f, args, [], []) := by kernel_rfl) (hl : ((sp n l0 H).tmps.length == n) = true := by kernel_rfl) : OTk P ops k (sp n l0 H) Q :=
  OTk.boom n hp h hl hq
theorem OWk.M {Q : St → Prop} (j : Nat) (b : Bool) (S : Bool → List (Nat × SV)) (l : Bool → List (Nat × SV)) (h : OWk P pu ops (k + j) (sp n (l b) H) Q) (h0 : sp n l0 H = sp n (S b) H := by kernel_rfl) (hT : (runSeg P [] ops j k (sp n (S true) H)).bind (pickR n ((l true).map (·.1))) = some (l true, H) := by kernel_rfl)
    (hF : (runSeg P [] ops j k (sp n (S false) H)).bind (pickR n ((l true).map (·.1))) = some (l false, H) := by kernel_rfl) : OWk P pu ops k (sp n l0 H) Q := OWk.mg n H _ j b (fun b => sp n (S b) H) l h0 hT hF h
end
end Go.Sh
