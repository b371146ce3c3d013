/- Contracts of functions over plain data. -/
import Derived.Test.YtmhiemakdfkmeaaS1
import Derived.Deep.Quiet
import Derived.Lib.ConvBytes
import Derived.Maps.RangeRun
import Derived.Lib.SliceRun
import Derived.Laws.Externs
import Derived.IntWalk
import Derived.Lib.Bytealg
import Derived.Sort.Grow
import Derived.Recover
set_option linter.all false
set_option autoImplicit true
set_option relaxedAutoImplicit true
namespace Go.Sh
def spL (l : List (Nat × SV)) : Nat → Nat → List SV
 | 0, _ => []
 | n + 1, t => match l with
  | [] => .undef :: spL [] n (t + 1)
  | (t', s) :: r => if t' = t then s :: spL r n (t + 1) else .undef :: spL l n (t + 1)
def sp (n : Nat) (l : List (Nat × SV)) (H : List ar) : St := ⟨spL l n 0, H⟩
def eD : List Nat → Nat → List SV → List SV
 | _, _, [] => []
 | [], t, s :: r => .undef :: eD [] (t + 1) r
 | k :: ks, t, s :: r => if k = t then s :: eD ks (t + 1) r else .undef :: eD (k :: ks) (t + 1) r
def pF (L : List Nat) : List SV → Bool
 | [] => true
 | s :: r => (match dep s with | some s' => L.contains s' | none => true) && pF L r
def xM (L : List Nat) (st : St) : Option St :=
 let r := eD L 0 st.tmps
 if pF L r then some { st with tmps := r } else none
theorem ng : ∀ (L : List Nat) (t : Nat) (l : List SV), (eD L t l).length = l.length
 | _, _, [] => by simp [eD]
 | [], t, s :: r => by simp [eD, ng]
 | k :: ks, t, s :: r => by simp only [eD]; split <;> simp [ng]
theorem kV : ∀ (L : List Nat) (t : Nat) (l : List SV) (i : Nat) (s : SV), (eD L t l)[i]? = some s → s = .undef ∨ l[i]? = some s
 | _, _, [], i, s, h => by simp [eD] at h
 | [], t, x :: r, i, s, h => by
  simp only [eD] at h
  cases i with
  | zero => simp at h; exact .inl h.symm
  | succ i => simpa using kV [] (t + 1) r i s (by simpa using h)
 | k :: ks, t, x :: r, i, s, h => by
  simp only [eD] at h
  split at h
  ·cases i with
   | zero => simp at h; exact .inr (by simp [h])
   | succ i => simpa using kV ks (t + 1) r i s (by simpa using h)
  ·cases i with
   | zero => simp at h; exact .inl h.symm
   | succ i => simpa using kV (k :: ks) (t + 1) r i s (by simpa using h)
theorem ko : ∀ (L : List Nat) (t : Nat) (l : List SV) (i : Nat) (s : SV), l[i]? = some s → List.Pairwise (· < ·) L → (∀ x ∈ L, t ≤ x) → t + i ∈ L → (eD L t l)[i]? = some s
 | _, _, [], i, s, h, _, _, _ => by simp at h
 | [], t, x :: r, i, s, h, _, _, hm => by simp at hm
 | k :: ks, t, x :: r, i, s, h, hp, hlo, hm => by
  simp only [eD]
  have hk := hlo k (by simp)
  rw [List.pairwise_cons] at hp
  split
  ·rename_i e
   subst e
   cases i with
   | zero => simpa using h
   | succ i =>
    simp only [List.getElem?_cons_succ] at h ⊢
    refine ko ks (k + 1) r i s h hp.2 (fun x hx => hp.1 x hx) ?_
    rcases List.mem_cons.1 hm with e | e
    ·omega
    ·rw [show k + 1 + i = k + (i + 1) by omega]; exact e
  ·rename_i hne
   cases i with
   | zero =>
    rcases List.mem_cons.1 hm with e | e
    ·omega
    ·have := hp.1 _ e; omega
   | succ i =>
    simp only [List.getElem?_cons_succ] at h ⊢
    refine ko (k :: ks) (t + 1) r i s h (List.pairwise_cons.2 hp) (fun x hx => ?_) (by rw [show t + 1 + i = t + (i + 1) by omega]; exact hm)
    rcases List.mem_cons.1 hx with e | e
    ·omega
    ·have := hp.1 x e; omega
theorem pE {L : List Nat} : ∀ {l : List SV}, pF L l = true → ∀ (i s : Nat) {x : SV}, l[i]? = some x → dep x = some s → s ∈ L
 | [], _, i, s, x, h, _ => by simp at h
 | y :: r, hk, i, s, x, h, hd => by
  simp only [pF, Bool.and_eq_true] at hk
  cases i with
  | zero =>
   simp only [List.getElem?_cons_zero, Option.some.injEq] at h
   subst h
   have := hk.1
   rw [hd] at this
   simpa using this
  | succ i => exact pE (l := r) hk.2 i s (by simpa using h) hd
def rising : List Nat → Bool
 | a :: b :: l => decide (a < b) && rising (b :: l)
 | _ => true
theorem mY : ∀ {l : List Nat}, rising l = true → List.Pairwise (· < ·) l
 | [], _ => .nil
 | [a], _ => by simp
 | a :: b :: l, h => by
  simp only [rising, Bool.and_eq_true, decide_eq_true_eq] at h
  have ih := mY (l := b :: l) h.2
  refine List.pairwise_cons.2 ⟨fun x hx => ?_, ih⟩
  rcases List.mem_cons.1 hx with e | e
  ·omega
  ·have := (List.pairwise_cons.1 ih).1 x e; omega
def bk (L : List Nat) (st : St) : Option St := if rising L then xM L st else none
theorem Rel.bk {st st' : St} {a : Act} {w : World} {g : Gh} {L : List Nat} (h : Rel st a w g) (hk : Sh.bk L st = some st') : Rel st' a w g := by
 unfold Sh.bk at hk
 split at hk
 ·rename_i hL
  simp only [xM] at hk
  split at hk
  ·rename_i hok
   cases hk
   refine Rel.step h (by simp [ng, h.len]) h.cH (fun _ _ h => h) (fun t s hs => ?_) h.hp
   rcases kV L 0 st.tmps t s hs with e | e
   ·exact .inl e
   ·refine .inr (.inr ⟨e, rfl, fun _ _ => az.refl _ _ _, fun s0 e0 => ⟨rfl, fun x hx hb => ⟨x, ?_, rfl⟩⟩⟩)
    exact ko L 0 st.tmps s0 _ hx (mY hL) (fun _ _ => Nat.zero_le _) (by simpa using pE hok t s0 hs e0)
  ·cases hk
 ·cases hk
section
variable {P : Program} {pu : Bool} {st : St} {ops : Array Oper} {k : Nat} {Q : St → Prop}
theorem SW.aG {c : Code} {Q : Exit → St → Prop} (L : List Nat) {st' : St} (hst : bk L st = some st') (h : SW P pu c st' Q) : SW P pu c st Q :=
 fun a w g hr => h a w g (hr.bk hst)
theorem OWk.aG (L : List Nat) {st' : St} (hst : bk L st = some st') (h : OWk P pu ops k st' Q) : OWk P pu ops k st Q :=
 fun a w g hr => h a w g (hr.bk hst)
theorem OBk.aG {m : Nat} (L : List Nat) {st' : St} (hst : bk L st = some st') (h : OBk P ops m k st' Q) : OBk P ops m k st Q :=
 fun a w g hr => h a w g (hr.bk hst)
theorem OWk.xh (bP L : List Nat) (n : Nat) {st' : St} (hr : (fB P bP ops n k st).bind (bk L) = some st') (h : OWk P pu ops (k + n) st' Q) : OWk P pu ops k st Q := by
 simp only [Option.bind_eq_some_iff] at hr
 obtain ⟨st1, h1, h2⟩ := hr
 exact OWk.seg n h1 (OWk.aG L h2 h)
theorem OBk.xh {m : Nat} (bP L : List Nat) (n : Nat) {st' : St} (hm : (k + n ≤ m) = True) (hr : (ct P bP ops n k st).bind (bk L) = some st') (h : OBk P ops m (k + n) st' Q) : OBk P ops m k st Q := by
 simp only [Option.bind_eq_some_iff] at hr
 obtain ⟨st1, h1, h2⟩ := hr
 exact OBk.seg n hm h1 (OBk.aG L h2 h)
theorem OWk.uI (L : List Nat) (n : Nat) (b : Bool) (S S' : Bool → St) (h0 : st = S b) (hT : (fB P [] ops n k (S true)).bind (bk L) = some (S' true)) (hF : (fB P [] ops n k (S false)).bind (bk L) = some (S' false))
  (h : OWk P pu ops (k + n) (S' b) Q) : OWk P pu ops k st Q := by
 subst h0
 have key : (fB P [] ops n k (S b)).bind (bk L) = some (S' b) := by cases b <;> assumption
 exact OWk.xh [] L n key h
theorem OBk.uI {m : Nat} (L : List Nat) (n : Nat) (b : Bool) (S S' : Bool → St) (hm : (k + n ≤ m) = True) (h0 : st = S b) (hT : (ct P [] ops n k (S true)).bind (bk L) = some (S' true)) (hF : (ct P [] ops n k (S false)).bind (bk L) = some (S' false))
  (h : OBk P ops m (k + n) (S' b) Q) : OBk P ops m k st Q := by
 subst h0
 have key : (ct P [] ops n k (S b)).bind (bk L) = some (S' b) := by cases b <;> assumption
 exact OBk.xh [] L n hm key h
def BAt (P : Program) (ops : Array Oper) (k : Nat) (st : St) (d : Option Tmp) (s : SV) : Prop :=
 ∃ o, ops[k]? = some o ∧ cV ops st o = some true ∧ bQ P st o s ∧ fP o.dst s = true ∧ o.dst = d
theorem OWk.at_ {d : Option Tmp} {s : SV} {st' : St} (L : List Nat) (hb : BAt P ops k st d s) (hst : bk L (st.put d s) = some st') (h : OWk P pu ops (k + 1) st' Q) : OWk P pu ops k st Q := by
 obtain ⟨o, h1, h2, h3, h4, rfl⟩ := hb
 exact OWk.b h1 h2 h3 h4 rfl (OWk.aG L hst h)
theorem OBk.at_ {m : Nat} {d : Option Tmp} {s : SV} {st' : St} (L : List Nat) (hm : (k < m) = True) (hb : BAt P ops k st d s) (hst : bk L (st.put d s) = some st') (h : OBk P ops m (k + 1) st' Q) : OBk P ops m k st Q := by
 obtain ⟨o, h1, h2, h3, h4, rfl⟩ := hb
 exact OBk.b hm h1 h2 h3 h4 rfl (OBk.aG L hst h)
def dT (ops : Array Oper) (k : Nat) (st : St) : Option Oper :=
 match ops[k]? with
 | some o => if cV ops st o = some true then some o else none
 | none => none
theorem aW {o : Oper} (h : dT ops k st = some o) : ops[k]? = some o ∧ cV ops st o = some true := by
 unfold dT at h
 split at h
 ·split at h
  ·cases h; exact ⟨by assumption, by assumption⟩
  ·cases h
 ·cases h
def tf (P : Program) (ops : Array Oper) (k : Nat) (st : St) : Option (Option Tmp × Option Loc × Nat × List D × Int) :=
 match dT ops k st with
 | some o => match o.op with
  | .indexAddr T x i => match gb st x, gM st i with
   | some (l, n, xs), some (_, j) => if n != 0 && n == er P T && (arrayOf P T).isNone then some (o.dst, l, n, xs, j) else none
   | _, _ => none
  | _ => none
 | none => none
theorem qR {d : Option Tmp} {l : Option Loc} {cs : List D} : fP d (aO l cs) = true := by cases l <;> rfl
theorem wE {d : Option Tmp} {l : Option Loc} {n : Nat} {cs : List D} : fP d (kj l n cs) = true := by cases l <;> rfl
theorem BAt.index {α : Type} {enc : α → D} {xs : List α} {j : Int} {y : α} {d : Option Tmp} {l : Option Loc} {n : Nat} (hy : idx xs j = some y) (h : tf P ops k st = some (d, l, n, xs.map enc, j)) : BAt P ops k st d (aO l (enc y).cells) := by
 unfold tf at h
 split at h
 ·rename_i o ho
  split at h
  ·rename_i T x i hop
   split at h
   ·rename_i l' n' xs' kk j' hl hi
    split at h
    ·rename_i hn
     simp only [Option.some.injEq, Prod.mk.injEq] at h
     obtain ⟨rfl, rfl, rfl, rfl, rfl⟩ := h
     obtain ⟨h1, h2⟩ := aW ho
     exact ⟨o, h1, h2, bQ.indexAddr hop hl hi hn (oI hy).1 (zo enc hy), qR, rfl⟩
    ·cases h
   ·cases h
  ·cases h
 ·cases h
def xN (P : Program) (ops : Array Oper) (k : Nat) (st : St) : Option (Option Tmp × List UInt8 × Int) :=
 match dT ops k st with
 | some o => match o.op with
  | .index T x i => match bK st x, gM st i with
   | some (.str l), some (_, j) => if kr P T then some (o.dst, l, j) else none
   | _, _ => none
  | _ => none
 | none => none
theorem BAt.rS {l : List UInt8} {j : Int} {b : UInt8} {d : Option Tmp} (hy : idx l j = some b) (h : xN P ops k st = some (d, l, j)) : BAt P ops k st d (.d (.int .u8 b.toNat)) := by
 unfold xN at h
 split at h
 ·rename_i o ho
  split at h
  ·rename_i T x i hop
   split at h
   ·rename_i l' kk j' hl hi
    split at h
    ·rename_i hn
     simp only [Option.some.injEq, Prod.mk.injEq] at h
     obtain ⟨rfl, rfl, rfl⟩ := h
     obtain ⟨h1, h2⟩ := aW ho
     exact ⟨o, h1, h2, bQ.index hop hl hi hn (oI hy).1 (oI hy).2, rfl, rfl⟩
    ·cases h
   ·cases h
  ·cases h
 ·cases h
def vY (P : Program) (ops : Array Oper) (k : Nat) (st : St) : Option (Option Tmp × SV) :=
 match dT ops k st with
 | some o => match bop P st o with
  | some s => if fP o.dst s then some (o.dst, s) else none
  | none => none
 | none => none
theorem BAt.of {d : Option Tmp} {s s' : SV} (h : vY P ops k st = some (d, s)) (e : s = s') : BAt P ops k st d s' := by
 subst e
 unfold vY at h
 split at h
 ·rename_i o ho
  split at h
  ·rename_i s0 hs
   split at h
   ·rename_i hl
    simp only [Option.some.injEq, Prod.mk.injEq] at h
    obtain ⟨rfl, rfl⟩ := h
    obtain ⟨h1, h2⟩ := aW ho
    exact ⟨o, h1, h2, bQ.fH hs, hl, rfl⟩
   ·cases h
  ·cases h
 ·cases h
theorem BAt.len {α : Type} {enc : α → D} {xs : List α} {d : Option Tmp} (h : vY P ops k st = some (d, .d (.int .i64 ((xs.map enc).length : Nat)))) : BAt P ops k st d (.d (.int .i64 (xs.length : Nat))) :=
 BAt.of h (by rw [List.length_map])
def sl {α : Type} (xs : List α) (i j : Int) : List α := (xs.take j.toNat).drop i.toNat
def sG {α : Type} (xs : List α) (i j : Int) : Bool := decide (0 ≤ i) && decide (i ≤ j) && decide (j ≤ xs.length)
def yi (st : St) (dflt : Int) : Option Operand → Option Int
 | none => some dflt
 | some x => match gM st x with | some (_, j) => some j | none => none
theorem tK {dflt : Nat} {x : Option Operand} {j : Int} (h : yi st dflt x = some j) (h0 : 0 ≤ j) : bnd st dflt x = some j.toNat := by
 cases x with
 | none => simp only [yi, Option.some.injEq] at h; subst h; rfl
 | some x =>
  simp only [yi] at h
  simp only [bnd]
  split at h
  ·cases h; simp [*]
  ·cases h
def Bm (P : Program) (ops : Array Oper) (k : Nat) (st : St) (len : Int) : Option (Option Tmp × Option Loc × Nat × List D × Int × Int) :=
 match dT ops k st with
 | some o => match o.op with
  | .slice T x lo hi none => match (match bK st x with | some (.str _) => none | _ => gb st x), yi st 0 lo, yi st len hi with
   | some (l, n, xs), some i, some j => if er P T != 0 && n == er P T then some (o.dst, l, n, xs, i, j) else none
   | _, _, _ => none
  | _ => none
 | none => none
theorem BAt.slice {α : Type} {enc : α → D} {xs : List α} {d : Option Tmp} {l : Option Loc} {n : Nat} {i j : Int} (hc : sG xs i j = true) (h : Bm P ops k st xs.length = some (d, l, n, xs.map enc, i, j)) : BAt P ops k st d (kj l n ((sl xs i j).map enc)) := by
 unfold Bm at h
 split at h
 ·rename_i o ho
  split at h
  ·rename_i T x lo hi hop
   split at h
   ·rename_i l' n' xs' i' j' hl hi' hj'
    split at h
    ·rename_i hn
     simp only [Option.some.injEq, Prod.mk.injEq] at h
     obtain ⟨rfl, rfl, rfl, rfl, rfl, rfl⟩ := h
     obtain ⟨h1, h2⟩ := aW ho
     simp only [sG, Bool.and_eq_true, decide_eq_true_eq] at hc
     have e1 := tK (dflt := 0) hi' hc.1.1
     have e2 := tK (dflt := xs.length) hj' (by omega)
     split at hl
     ·cases hl
     ·rename_i hns
      refine ⟨o, h1, h2, bQ.eq (bQ.slice hop ?_ hl e1 (by rw [List.length_map]; exact e2) hn (by omega) (by rw [List.length_map]; omega)) ?_, wE, rfl⟩
      ·split
       ·rename_i l0 h0; exact absurd h0 (hns l0)
       ·rfl
      ·simp [sl, List.map_drop, List.map_take]
    ·cases h
   ·cases h
  ·cases h
 ·cases h
def room : Nat := 16777216
def yp (P : Program) (ops : Array Oper) (k : Nat) (st : St) : Option (Nat × Nat × Nat × List D × List D) :=
 match dT ops k st with
 | some o => match o.op, o.dst with
  | .call c, some d => match c.callee, c.args.toList, c.argTypes.toList with
   | .builtin .append, [.tmp s, y], [T, T2] => match st.tmps[s]?, vo st y, mX P T with
    | some (.own n xs), some (m, ys), some (n', b) => if n == n' && (m == n || ys.isEmpty) && xC P T2 && decide (b ≤ 65536) then some (s, d, n, xs, ys) else none
    | _, _, _ => none
   | _, _, _ => none
  | _, _ => none
 | none => none
theorem OWk.append {s d n : Nat} {xs ys zs : List D} {st' : St} (L : List Nat) (h : yp P ops k st = some (s, d, n, xs, ys)) (hz : xs ++ ys = zs) (hc : zs.length ≤ room) (hst : bk L ((st.take s).put (some d) (.own n zs)) = some st')
  (hn : OWk P pu ops (k + 1) st' Q) : OWk P pu ops k st Q := by
 subst hz
 unfold yp at h
 split at h
 ·rename_i o ho
  split at h
  ·rename_i c d' hop hd
   split at h
   ·rename_i s' y T T2 hcal ha ht
    split at h
    ·rename_i n0 xs0 m ys0 n' b hs hy hT
     split at h
     ·rename_i hcond
      simp only [Option.some.injEq, Prod.mk.injEq] at h
      obtain ⟨rfl, rfl, rfl, rfl, rfl⟩ := h
      simp only [Bool.and_eq_true, Bool.or_eq_true, beq_iff_eq, List.isEmpty_iff, decide_eq_true_eq] at hcond
      obtain ⟨⟨⟨hnn, hm⟩, h2⟩, hb⟩ := hcond
      subst hnn
      obtain ⟨h1, h3⟩ := aW ho
      rw [List.length_append] at hc
      refine OWk.e h1 h3 (OpS.append hop hcal ha ht hd hs hy hT h2 hm (Nat.le_trans hc (by decide)) ?_) (OWk.aG L hst hn)
      exact Nat.le_trans (Nat.mul_le_mul hc hb) (by decide)
     ·cases h
    ·cases h
   ·cases h
  ·cases h
 ·cases h
def dE (P : Program) (ops : Array Oper) (k : Nat) (st : St) (tr : List Nat) : Option (Option Tmp × FuncId × List SV × List Loc × List (Nat × Nat)) :=
 match dT ops k st with
 | some o => match o.op with
  | .call c => match jH P st tr c with
   | some cs => some (o.dst, cs.f, cs.args, cs.ls, cs.gs)
   | none => none
  | _ => none
 | none => none
theorem OWk.vX {f : FuncId} {args : List SV} {ls : List Loc} {gs : List (Nat × Nat)} {d : Option Tmp} {r : SV} {st' : St} (tr L : List Nat) (hp : PC P f args r) (h : dE P ops k st tr = some (d, f, args, ls, gs)) (hr : (m6 r && (ls.isEmpty || jz r)) = true)
  (hst : bk L ((st.fp gs).put d r) = some st') (hn : OWk P pu ops (k + 1) st' Q) : OWk P pu ops k st Q := by
 unfold dE at h
 split at h
 ·rename_i o ho
  split at h
  ·rename_i c hop
   split at h
   ·rename_i cs hcs
    simp only [Option.some.injEq, Prod.mk.injEq] at h
    obtain ⟨rfl, rfl, rfl, rfl, rfl⟩ := h
    obtain ⟨h1, h2⟩ := aW ho
    rw [Bool.and_eq_true] at hr
    exact OWk.call (cs := cs) tr h1 h2 hop hcs hp hr.1 hr.2 rfl (OWk.aG L hst hn)
   ·cases h
  ·cases h
 ·cases h
def St.freeze (st : St) (t : Nat) : St := match st.tmps[t]? with | some (.own n xs) => (st.kill t).set t (.d (.list n xs)) | _ => st
theorem Rel.freeze {a : Act} {w : World} {g : Gh} (h : Rel st a w g) (t : Nat) : ∃ g', Rel (st.freeze t) a w g' ∧ Fr pu g w g' w := by
 unfold St.freeze
 split
 ·rename_i n xs ht
  let rn : Own → Own := fun o => if o = .lst (.slot t) then .free else o
  have rnO : ∀ {o}, o ≠ .lst (.slot t) → rn o = o := fun h => by simp [rn, h]
  refine ⟨g.ren rn, ?_, Nat.le_refl _, az.ren (rnO (by simp)), az.ren (rnO (by simp)), fun _ _ h => h, fun _ i => az.ren (rnO (by simp)), fun _ i j => az.ren (rnO (by simp)), fun _ => rfl, ⟨rfl, rfl⟩⟩
  have hlt := aD ht
  refine Rel.step h (by simp [St.set, h.len]) h.cH (fun _ _ h => h) (fun t' s' hs' => ?_) (RH.aG (g := g) (w := w) (fun o ho => az.ren (rnO fun e => by subst e; exact ho.elim)) (fun _ _ h => h) rfl h.hp)
  by_cases hne : t = t'
  ·subst hne
   rw [St.set, List.getElem?_set_self (by simpa using hlt)] at hs'
   cases hs'
   refine .inr (.inl ?_)
   have ho : bA g w (.slot t) (valOf a t) n xs := h.tmp t _ ht
   refine cN.free (l := .slot t) (rnO (by simp)) (by simp [rn]) ?_
   rcases ho with ⟨rfl, a, e⟩ | ⟨k, off, cap, c, T, us, hv, hk, hb, hl, hz, hn, hc, hr⟩
   ·exact .inl ⟨rfl, a, _, e⟩
   ·exact .inr ⟨k, off, cap, c, T, _, us, hv, by simp [hk, okL], hb, hl, hn, hc, hr⟩
  ·simp only [St.set, List.getElem?_set_ne hne] at hs'
   rcases St.kn hs' with e | ⟨e1, e2⟩
   ·exact .inl e
   ·refine .inr (.inr ⟨e1, rfl, fun o ho => az.ren (rnO ?_), fun s0 e => ⟨rfl, fun x hx hb => ⟨?x, ?hx, ?hb⟩⟩⟩)
    ·rintro rfl
     cases s' with
     | own n xs => simp only [eS, Own.lst.injEq, Loc.slot.injEq, reduceCtorEq, false_or] at ho; exact hne ho
     | bf l n xs =>
      simp only [eS, Own.lst.injEq, reduceCtorEq, false_or] at ho
      subst ho
      simp [bV] at e2
     | bO l cs =>
      simp only [eS, Own.lst.injEq, reduceCtorEq, false_or] at ho
      subst ho
      simp [bV] at e2
     | pin v0 n xs => simp only [eS, Own.lst.injEq, Loc.slot.injEq, reduceCtorEq, false_or] at ho; exact hne ho
     | _ => simp [eS] at ho
    ·exact x
    ·have h2 : t ≠ s0 := fun e3 => by rw [e3, bJ e] at e2; cases e2
     simp [St.set, List.getElem?_set_ne h2, St.kill, hx, cF hb]
    ·rfl
 ·exact ⟨g, h, Fr.refl _ _ _⟩
theorem OWk.freeze (t : Nat) {st' : St} (hst : st.freeze t = st') (h : OWk P pu ops k st' Q) : OWk P pu ops k st Q := by
 subst hst
 intro a w g hr Qc hq
 obtain ⟨g', r, f⟩ := hr.freeze (pu := pu) t
 exact h a w g' r Qc fun st2 a2 w2 g2 q2 r2 f2 => hq st2 a2 w2 g2 q2 r2 (f.trans f2)
theorem SW.z0 {γ β : Type} {c : Code} {Q : Exit → St → Prop} (L : List Nat) {body : γ → Option (γ ⊕ β)} (S : γ → St) (E : β → Exit → St → Prop) {fuel : Nat} {x : γ} {b : β} (hit : Sh.iter body fuel x = some b) (h0 : bk L st = some (S x))
  (round : ∀ x o, body x = some o → SW P pu c (S x) (thenS (fun s' => ∃ y, o = .inl y ∧ bk L s' = some (S y)) (fun e s' => ∃ b, o = .inr b ∧ E b e s')))
  (after : ∀ e s', E b e s' → Q e s') : SW P pu (.loop c) st Q := by
 refine SW.aG L h0 ?_
 intro a w g hr
 refine jf (γ := γ) body (fun x a' w' => ∃ g', Rel (S x) a' w' g' ∧ Fr pu g w g' w') b (fun x a1 w1 ⟨g1, r1, f1⟩ o ho => ?_) fuel x a w ⟨g, hr, Fr.refl _ _ _⟩ hit
 refine Code.wp_mono (fun e a' w' hh => ?_) (round x o ho a1 w1 g1 r1)
 obtain ⟨st', g', q, r, f⟩ := hh
 cases e with
 | normal => obtain ⟨y, rfl, h1⟩ := q; exact ⟨y, rfl, g', r.bk h1, f1.trans f⟩
 | _ => obtain ⟨b', rfl, h1⟩ := q; exact ⟨b', rfl, fun e => ⟨st', g', after _ _ (e ▸ h1), r, f1.trans f⟩⟩
end
end Go.Sh
namespace Go.Sh
section
variable {P : Program} {pu : Bool} {st : St} {ops : Array Oper} {k : Nat} {Q : St → Prop}
theorem OBk.done {m : Nat} (h : decide (m ≤ k) = true) (hq : Q st) : OBk P ops m k st Q := OBk.fin (eq_true (of_decide_eq_true h)) hq
theorem OBk.Cz {m : Nat} (bP L : List Nat) (n : Nat) {st' : St} (hm : decide (k + n ≤ m) = true) (hr : (ct P bP ops n k st).bind (bk L) = some st') (h : OBk P ops m (k + n) st' Q) : OBk P ops m k st Q := OBk.xh bP L n (eq_true (of_decide_eq_true hm)) hr h
theorem OBk.Av {m : Nat} (L : List Nat) (n : Nat) (b : Bool) (S S' : Bool → St) (hm : decide (k + n ≤ m) = true) (h0 : st = S b) (hT : (ct P [] ops n k (S true)).bind (bk L) = some (S' true)) (hF : (ct P [] ops n k (S false)).bind (bk L) = some (S' false))
  (h : OBk P ops m (k + n) (S' b) Q) : OBk P ops m k st Q := OBk.uI L n b S S' (eq_true (of_decide_eq_true hm)) h0 hT hF h
theorem OBk.atB {m : Nat} {d : Option Tmp} {s : SV} {st' : St} (L : List Nat) (hm : decide (k < m) = true) (hb : BAt P ops k st d s) (hst : bk L (st.put d s) = some st') (h : OBk P ops m (k + 1) st' Q) : OBk P ops m k st Q := OBk.at_ L (eq_true (of_decide_eq_true hm)) hb hst h
theorem SW.gz {Q : Exit → St → Prop} {id : Nat} {l : List Oper} (hm : P.follows .mixedOrders = true) (hB : Region.lexB .any l.toArray = true) (h : OBk P l.toArray l.toArray.size 0 st (Q .normal)) : SW P pu (.region id l.toArray true) st Q := SW.y7 hm hB h
theorem OWk.done (h : decide (ops.size ≤ k) = true) (hq : Q st) : OWk P pu ops k st Q := OWk.fin (eq_true (of_decide_eq_true h)) hq
end
theorem bY {α : Type} {f : α → D} {l : List α} (h : decide (l.length ≤ room) = true) : (l.map f).length ≤ room := by
 rw [List.length_map]; exact of_decide_eq_true h
theorem aY {α : Type} {f : α → D} {xs ys : List α} : xs.map f ++ ys.map f = (xs ++ ys).map f := (List.map_append).symm
theorem dO {α β γ : Type} {f : α → γ} {g : β → γ} {x : α} {r : γ} (h : Sum.elim f g (.inl x) = r) : f x = r := h
theorem dN {α β γ : Type} {f : α → γ} {g : β → γ} {x : β} {r : γ} (h : Sum.elim f g (.inr x) = r) : g x = r := h
end Go.Sh
namespace Go.Sh
theorem SW.case {P : Program} {pu : Bool} {st : St} {c : Code} {Q : Exit → St → Prop} (b : Bool) (S : Bool → St) (h0 : st = S b) (hT : b = true → SW P pu c (S true) Q) (hF : b = false → SW P pu c (S false) Q) : SW P pu c st Q := by
 subst h0
 cases b
 ·exact hF rfl
 ·exact hT rfl
end Go.Sh
namespace Go.Sh
section
variable {P : Program} {st : St} {ops : Array Oper} {k : Nat}
end
end Go.Sh
namespace Go.Sh
section
variable {P : Program} {pu : Bool} {st : St}
def aX {α β : Type} (b : α → β) (a : (α → β) → β) : β := a b
theorem bt {α β : Type} {b : α → β} {a : (α → β) → β} {r : β} (h : aX b a = r) : ∃ jp, jp = b ∧ a jp = r := ⟨b, rfl, h⟩
theorem SW.Bp {α : Type} {x y : Code} {Q : Exit → St → Prop} (L : List Nat) (S : α → St) (C : α → Prop) (hj : ∀ v, C v → SW P pu y (S v) Q) (h : SW P pu x st (thenS (fun s => ∃ v l, bk L (s.gD l) = some (S v) ∧ C v) Q)) : SW P pu (.seq x y) st Q := by
 refine SW.seq ?_
 intro a w g hr
 refine Code.wp_mono (fun e a' w' hh => ?_) (h a w g hr)
 obtain ⟨st', g', q, r, f⟩ := hh
 cases e with
 | normal =>
  obtain ⟨v, l, h1, h2⟩ := q
  exact ⟨S v, g', hj v h2, r.gD.bk h1, f⟩
 | _ => exact ⟨st', g', q, r, f⟩
end
end Go.Sh
namespace Go.Sh
def vI (n : Int) : SV := .d (.int .i64 n)
def vB (b : Bool) : SV := .d (.bool b)
def vS (l : List UInt8) : SV := .d (.str l)
def gB : List Nat → Nat → List SV → List (Nat × SV)
 | _, _, [] => []
 | [], t, s :: r => []
 | k :: ks, t, s :: r => if k = t then (k, s) :: gB ks (t + 1) r else gB (k :: ks) (t + 1) r
theorem qV : ∀ (t : Nat) (l : List SV), eD [] t l = spL [] l.length t
 | _, [] => rfl
 | t, s :: r => by simp [eD, spL, qV (t + 1) r]
theorem xg {n t t' : Nat} {s : SV} {l : List (Nat × SV)} (h : t' ≠ t) : spL ((t', s) :: l) (n + 1) t = .undef :: spL ((t', s) :: l) n (t + 1) := by simp [spL, h]
theorem ph : ∀ (L : List Nat) (t : Nat) (l : List SV), (∀ x ∈ L, t ≤ x) → List.Pairwise (· < ·) L → eD L t l = spL (gB L t l) l.length t
 | [], t, l, _, _ => by cases l <;> simp [gB, qV, eD, spL]
 | k :: ks, t, [], _, _ => by simp [eD, gB, spL]
 | k :: ks, t, s :: r, hlo, hp => by
  simp only [eD, gB, List.length_cons]
  rw [List.pairwise_cons] at hp
  split
  ·rename_i e
   subst e
   simp only [spL, if_true]
   rw [ph ks (k + 1) r (fun x hx => hp.1 x hx) hp.2]
  ·rename_i hne
   have hlo' : ∀ x ∈ k :: ks, t + 1 ≤ x := fun x hx => by
    have h1 := hlo k (by simp)
    rcases List.mem_cons.1 hx with e | e
    ·omega
    ·have := hp.1 x e; omega
   rw [ph (k :: ks) (t + 1) r hlo' (List.pairwise_cons.2 hp)]
   have hgt : ∀ p ∈ gB (k :: ks) (t + 1) r, t < p.1 := sS (k :: ks) (t + 1) r hlo'
   cases hq : gB (k :: ks) (t + 1) r with
   | nil => simp [spL]
   | cons p q =>
    obtain ⟨t', s'⟩ := p
    have := hgt (t', s') (by rw [hq]; simp)
    rw [xg (by simp only at this; omega)]
where
 sS : ∀ (L : List Nat) (t : Nat) (l : List SV), (∀ x ∈ L, t ≤ x) → ∀ p ∈ gB L t l, t ≤ p.1
  | [], t, l, _, p, h => by cases l <;> simp [gB] at h
  | k :: ks, t, [], _, p, h => by simp [gB] at h
  | k :: ks, t, s :: r, hlo, p, h => by
   simp only [gB] at h
   split at h
   ·rename_i e
    subst e
    rcases List.mem_cons.1 h with e | e
    ·subst e; exact Nat.le_refl _
    ·by_cases hk : ∀ x ∈ ks, k + 1 ≤ x
     ·have := sS ks (k + 1) r hk p e; omega
     ·have := kS ks (k + 1) r p e
      exact hlo p.1 (by simp [this])
   ·rename_i hne
    have := kS (k :: ks) (t + 1) r p h
    exact hlo p.1 this
 kS : ∀ (L : List Nat) (t : Nat) (l : List SV), ∀ p ∈ gB L t l, p.1 ∈ L
  | [], t, l, p, h => by cases l <;> simp [gB] at h
  | k :: ks, t, [], p, h => by simp [gB] at h
  | k :: ks, t, s :: r, p, h => by
   simp only [gB] at h
   split at h
   ·rcases List.mem_cons.1 h with e | e
    ·subst e; simp
    ·exact List.mem_cons_of_mem _ (kS ks (t + 1) r p e)
   ·exact kS (k :: ks) (t + 1) r p h
def aV (n : Nat) (L : List Nat) (st : St) : Option (List (Nat × SV) × List ar) :=
 if rising L && (st.tmps.length == n && pF L (eD L 0 st.tmps)) then some (gB L 0 st.tmps, st.H) else none
theorem ay {n : Nat} {L : List Nat} {st : St} {l : List (Nat × SV)} {H : List ar} (h : aV n L st = some (l, H)) : bk L st = some (sp n l H) := by
 unfold aV at h
 split at h
 ·rename_i hc
  simp only [Bool.and_eq_true, beq_iff_eq] at hc
  simp only [Option.some.injEq, Prod.mk.injEq] at h
  obtain ⟨rfl, rfl⟩ := h
  obtain ⟨h1, h2, h3⟩ := hc
  unfold bk xM
  rw [if_pos h1]
  simp only [h3, if_true, Option.some.injEq, sp]
  rw [ph L 0 st.tmps (fun _ _ => Nat.zero_le _) (mY h1), h2]
 ·cases h
theorem gd {n : Nat} {L : List Nat} {o : Option St} {l : List (Nat × SV)} {H : List ar} (h : o.bind (aV n L) = some (l, H)) : o.bind (bk L) = some (sp n l H) := by
 simp only [Option.bind_eq_some_iff] at h ⊢
 obtain ⟨st, h1, h2⟩ := h
 exact ⟨st, h1, ay h2⟩
section
variable {P : Program} {pu : Bool} {st : St} {ops : Array Oper} {k : Nat} {Q : St → Prop} {m : Nat} (n : Nat) (H : List ar)
theorem SW.kp {c : Code} {Q : Exit → St → Prop} (L : List Nat) (l : List (Nat × SV)) (hst : aV n L st = some (l, H)) (h : SW P pu c (sp n l H) Q) : SW P pu c st Q := SW.aG L (ay hst) h
theorem OWk.sg (bP L : List Nat) (j : Nat) (l : List (Nat × SV)) (hr : (fB P bP ops j k st).bind (aV n L) = some (l, H)) (h : OWk P pu ops (k + j) (sp n l H) Q) : OWk P pu ops k st Q := OWk.xh bP L j (gd hr) h
theorem OBk.sg (bP L : List Nat) (j : Nat) (l : List (Nat × SV)) (hm : decide (k + j ≤ m) = true) (hr : (ct P bP ops j k st).bind (aV n L) = some (l, H)) (h : OBk P ops m (k + j) (sp n l H) Q) : OBk P ops m k st Q := OBk.Cz bP L j hm (gd hr) h
theorem OWk.mg (L : List Nat) (j : Nat) (b : Bool) (S : Bool → St) (l : Bool → List (Nat × SV)) (h0 : st = S b) (hT : (fB P [] ops j k (S true)).bind (aV n L) = some (l true, H)) (hF : (fB P [] ops j k (S false)).bind (aV n L) = some (l false, H))
  (h : OWk P pu ops (k + j) (sp n (l b) H) Q) : OWk P pu ops k st Q := OWk.uI L j b S (fun b => sp n (l b) H) h0 (gd hT) (gd hF) h
theorem OBk.mg (L : List Nat) (j : Nat) (b : Bool) (S : Bool → St) (l : Bool → List (Nat × SV)) (hm : decide (k + j ≤ m) = true) (h0 : st = S b) (hT : (ct P [] ops j k (S true)).bind (aV n L) = some (l true, H)) (hF : (ct P [] ops j k (S false)).bind (aV n L) = some (l false, H))
  (h : OBk P ops m (k + j) (sp n (l b) H) Q) : OBk P ops m k st Q := OBk.Av L j b S (fun b => sp n (l b) H) hm h0 (gd hT) (gd hF) h
theorem OWk.on {d : Option Tmp} {s : SV} (L : List Nat) (l : List (Nat × SV)) (hb : BAt P ops k st d s) (hst : aV n L (st.put d s) = some (l, H)) (h : OWk P pu ops (k + 1) (sp n l H) Q) : OWk P pu ops k st Q := OWk.at_ L hb (ay hst) h
theorem OBk.on {d : Option Tmp} {s : SV} (L : List Nat) (l : List (Nat × SV)) (hm : decide (k < m) = true) (hb : BAt P ops k st d s) (hst : aV n L (st.put d s) = some (l, H)) (h : OBk P ops m (k + 1) (sp n l H) Q) : OBk P ops m k st Q := OBk.atB L hm hb (ay hst) h
theorem OWk.app {s d w : Nat} {xs ys zs : List D} (L : List Nat) (l : List (Nat × SV)) (h : yp P ops k st = some (s, d, w, xs, ys)) (hz : xs ++ ys = zs) (hc : zs.length ≤ room) (hst : aV n L ((st.take s).put (some d) (.own w zs)) = some (l, H))
  (hn : OWk P pu ops (k + 1) (sp n l H) Q) : OWk P pu ops k st Q := OWk.append L h hz hc (ay hst) hn
theorem OWk.cl {f : FuncId} {args : List SV} {ls : List Loc} {gs : List (Nat × Nat)} {d : Option Tmp} {r : SV} (tr L : List Nat) (l : List (Nat × SV)) (hp : PC P f args r) (h : dE P ops k st tr = some (d, f, args, ls, gs)) (hr : (m6 r && (ls.isEmpty || jz r)) = true)
  (hst : aV n L ((st.fp gs).put d r) = some (l, H)) (hn : OWk P pu ops (k + 1) (sp n l H) Q) : OWk P pu ops k st Q := OWk.vX tr L hp h hr (ay hst) hn
theorem OWk.fz (t : Nat) (L : List Nat) (l : List (Nat × SV)) (hst : aV n L (st.freeze t) = some (l, H)) (h : OWk P pu ops k (sp n l H) Q) : OWk P pu ops k st Q := OWk.freeze t rfl (OWk.aG L (ay hst) h)
theorem SW.jn {α : Type} {x y : Code} {Q : Exit → St → Prop} (L : List Nat) (l : α → List (Nat × SV)) (C : α → Prop) (hj : ∀ v, C v → SW P pu y (sp n (l v) H) Q) (h : SW P pu x st (thenS (fun s => ∃ v ll, aV n L (s.gD ll) = some (l v, H) ∧ C v) Q)) : SW P pu (.seq x y) st Q :=
 SW.Bp L (fun v => sp n (l v) H) C hj (SW.mono h fun e s hh => by
  cases e with
  | normal => obtain ⟨v, ll, h1, h2⟩ := hh; exact ⟨v, ll, ay h1, h2⟩
  | _ => exact hh)
theorem SW.it {γ β : Type} {c : Code} {Q : Exit → St → Prop} (L : List Nat) {body : γ → Option (γ ⊕ β)} (l : γ → List (Nat × SV)) (E : β → Exit → St → Prop) {fuel : Nat} {x : γ} {b : β} (hit : Sh.iter body fuel x = some b) (h0 : aV n L st = some (l x, H))
  (round : ∀ x o, body x = some o → SW P pu c (sp n (l x) H) (thenS (fun s' => ∃ y, o = .inl y ∧ aV n L s' = some (l y, H)) (fun e s' => ∃ b, o = .inr b ∧ E b e s')))
  (after : ∀ e s', E b e s' → Q e s') : SW P pu (.loop c) st Q :=
 SW.z0 L (fun x => sp n (l x) H) E hit (ay h0) (fun x o h => SW.mono (round x o h) fun e s hh => by
  cases e with
  | normal => obtain ⟨y, h1, h2⟩ := hh; exact ⟨y, h1, ay h2⟩
  | _ => exact hh) after
end
end Go.Sh
namespace Go.Sh
def nS : D → Option Value
 | .fn f [] [] => some (.func f #[] #[])
 | d => ic d
def nR : List D → Option (List Value)
 | [] => some []
 | d :: ds => match nS d, nR ds with
  | some v, some vs => some (v :: vs)
  | _, _ => none
def uT : D → Option Value
 | .agg cs => (nR cs).map fun vs => .agg vs.toArray
 | d => nS d
theorem tC {g : Gh} {w : World} {v u : Value} {d : D} (h : Rd g w v d) (hd : nS d = some u) : v = u := by
 unfold nS at hd
 split at hd
 ·cases hd
  cases h with
  | fn hl1 hl2 us1 us2 hc1 hr1 hc2 hr2 =>
   rename_i first caps
   have e1 : first = #[] := Array.eq_empty_of_size_eq_zero (by simpa using hl1)
   have e2 : caps = #[] := Array.eq_empty_of_size_eq_zero (by simpa using hl2)
   rw [e1, e2]
 ·exact s8 hd h
theorem tB {g : Gh} {w : World} : ∀ {cs : List D} {vs : List Value} {us : List Value}, nR cs = some vs → us.length = cs.length → (∀ (j : Nat) (y : D), cs[j]? = some y → ∃ u, us[j]? = some u ∧ Rd g w u y) → us = vs
 | [], vs, us, h, hl, _ => by simp [nR] at h; subst h; simpa using hl
 | d :: ds, vs, us, h, hl, hr => by
  simp only [nR] at h
  split at h
  ·rename_i v vs' h1 h2
   cases h
   cases us with
   | nil => simp at hl
   | cons u us =>
    obtain ⟨u', e1, e2⟩ := hr 0 d (by simp)
    simp at e1; subst e1
    rw [tC e2 h1, tB (us := us) h2 (by simpa using hl) (fun j y hj => by simpa using hr (j + 1) y (by simpa using hj))]
  ·cases h
theorem vU {g : Gh} {w : World} {v u : Value} {d : D} (h : Rd g w v d) (hd : uT d = some u) : v = u := by
 unfold uT at hd
 split at hd
 ·rename_i cs
  simp only [Option.map_eq_some_iff] at hd
  obtain ⟨vs, h1, rfl⟩ := hd
  cases h with
  | agg hl us hc hr =>
   rename_i us0
   have := tB (us := us0.toList) h1 (by simpa using hl) (fun j y hj => ⟨us j, by simpa using (hc j y hj).1, hr j y hj⟩)
   rw [← this]
 ·exact tC h hd
def ir : List SV → Option (List Value)
 | [] => some []
 | .d x :: r => match uT x, ir r with
  | some v, some vs => some (v :: vs)
  | _, _ => none
 | _ => none
def xZ : SV → Option Value
 | .d x => uT x
 | .tup vs => (ir vs).map fun us => .tuple us.toArray
 | _ => none
theorem re : ∀ {vs : List SV} {ws : List Value}, ir vs = some ws → ws.length = vs.length ∧ ∀ (j : Nat) (s : SV), vs[j]? = some s → ∃ u x, ws[j]? = some u ∧ s = .d x ∧ uT x = some u
 | [], ws, h => by simp [ir] at h; subst h; simp
 | .d x :: r, ws, h => by
  simp only [ir] at h
  split at h
  ·rename_i v vs' h1 h2
   cases h
   obtain ⟨hl, hr⟩ := re h2
   refine ⟨by simp [hl], fun j s hj => ?_⟩
   cases j with
   | zero => simp at hj; subst hj; exact ⟨v, x, by simp, rfl, h1⟩
   | succ j => simpa using hr j s (by simpa using hj)
  ·cases h
 | .own _ _ :: _, _, h => by simp [ir] at h
 | .bf _ _ _ :: _, _, h => by simp [ir] at h
 | .bO _ _ :: _, _, h => by simp [ir] at h
 | .box _ :: _, _, h => by simp [ir] at h
 | .loc _ _ :: _, _, h => by simp [ir] at h
 | .tup _ :: _, _, h => by simp [ir] at h
 | .undef :: _, _, h => by simp [ir] at h
 | .als _ :: _, _, h => by simp [ir] at h
 | .ep _ _ _ :: _, _, h => by simp [ir] at h
 | .pin _ _ _ :: _, _, h => by simp [ir] at h
def UpW (w w' : World) : Prop := w.heap.size ≤ w'.heap.size ∧ Up w w' ∧ cq w w'
section
variable {P : Program} {pu : Bool} {st : St} {ops : Array Oper} {k m : Nat} {Q : St → Prop}
theorem UpW.aG {w w' : World} (h : UpW w w') (g : Gh) (o : Own) : az o g w g w' := fun k b h1 h2 => ⟨h1, h.2.1 k b h2⟩
theorem UpW.fr {w w' : World} (h : UpW w w') (g : Gh) : Fr pu g w g w' := ⟨h.1, h.aG g _, h.aG g _, fun _ _ h => h, fun _ _ => h.aG g _, fun _ _ _ => h.aG g _, fun _ => rfl, h.2.2⟩
theorem UpW.rel {w w' : World} {a : Act} {g : Gh} (h : UpW w w') (hr : Rel st a w g) : Rel st a w' g := hr.world (fun o => h.aG g o) (fun _ _ h => h) rfl
def OQ (P : Program) (ops : Array Oper) (l : List Oper) (st : St) (Q : St → Prop) : Prop :=
 ∀ a w g, Rel st a w g → ∀ Qc : Act → Prop, (∀ st' a' g', Q st' → Rel st' a' w g' → (∀ pu, Fr pu g w g' w) → Qc a') → wpQuiet P ops (UpW w) Qc l a
def OQk (P : Program) (ops : Array Oper) (k : Nat) (st : St) (Q : St → Prop) : Prop := OQ P ops (ops.toList.drop k) st Q
theorem OQk.done (h : decide (ops.size ≤ k) = true) (hq : Q st) : OQk P ops k st Q := by
 have h := of_decide_eq_true h
 unfold OQk
 rw [List.drop_of_length_le (by simpa using h)]
 exact fun a w g hr Qc hc => hc st a g hq hr fun _ => Fr.refl _ _ _
theorem OQk.b {o : Oper} {s : SV} (ho : ops[k]? = some o) (hw : cV ops st o = some true) (hb : bQ P st o s) (hl : fP o.dst s = true) (h : OQk P ops (k + 1) (st.put o.dst s) Q) : OQk P ops k st Q := by
 unfold OQk at h ⊢
 rw [drop_cons ho]
 intro a w g hr Qc hc
 unfold wpQuiet
 rw [aN hr hw, if_pos rfl]
 obtain ⟨v, e1, e2⟩ := hb a w g hr
 refine ⟨v, fun w' hw' => ?_, h _ w g (hr.pf e1 hl) Qc hc⟩
 unfold Oper.quietAt
 rw [e2 w' hw'.2.1]
 exact ⟨rfl, rfl⟩
theorem OQk.bP {o : Oper} {bP : List Nat} {st' : St} (ho : ops[k]? = some o) (hw : cV ops st o = some true) (hb : o4 bP st o = some st') (h : OQk P ops (k + 1) st' Q) : OQk P ops k st Q := by
 unfold o4 at hb
 split at hb
 ·rename_i s hop
  split at hb
  ·rename_i n xs hs
   split at hb
   ·cases hb
    unfold OQk at h ⊢
    rw [drop_cons ho]
    intro a w g hr Qc hc
    unfold wpQuiet
    rw [aN hr hw, if_pos rfl]
    have hexec : ∀ w', (execOp a.eval o).run P w' = .ok (.value (valOf a s)) w' := fun w' => by unfold execOp; rw [hop]; rfl
    obtain ⟨g', r, f⟩ := hr.vC (pu := true) P hop hs
    refine ⟨valOf a s, fun w' hw' => ?_, h _ w g' r Qc fun st' a' g2 q r2 f2 => hc st' a' g2 q r2 fun pu => Fr.trans ⟨f.1, f.2, f.3, f.4, fun _ => f.5 rfl, fun _ => f.6 rfl, fun _ => f.7 rfl, f.8⟩ (f2 pu)⟩
    unfold Oper.quietAt
    rw [hexec w']
    exact ⟨rfl, rfl⟩
   ·cases hb
  ·cases hb
 ·cases hb
theorem OQk.skip {o : Oper} (ho : ops[k]? = some o) (hw : cV ops st o = some false) (h : OQk P ops (k + 1) (st.put o.dst (.tup [])) Q) : OQk P ops k st Q := by
 unfold OQk at h ⊢
 rw [drop_cons ho]
 intro a w g hr Qc hc
 unfold wpQuiet
 rw [aN hr hw, if_neg (by simp)]
 exact h _ w g (hr.b9 o.dst (v := undef) ⟨#[], rfl, rfl, by simp⟩) Qc hc
theorem OQk.seg {bP : List Nat} {st' : St} (n : Nat) (hr : ct P bP ops n k st = some st') (h : OQk P ops (k + n) st' Q) : OQk P ops k st Q := by
 induction n generalizing k st with
 | zero => cases hr; exact h
 | succ n ih =>
  simp only [ct] at hr
  split at hr
  ·rename_i o ho
   split at hr
   ·rename_i st1 h1
    have ih' := ih hr (by rw [show k + 1 + n = k + (n + 1) by omega]; exact h)
    unfold rJ at h1
    split at h1
    ·rename_i hw
     cases h1
     exact OQk.skip ho hw ih'
    ·rename_i hw
     split at h1
     ·rename_i st2 h2
      cases h1
      exact OQk.bP ho hw h2 ih'
     ·split at h1
      ·rename_i s hb
       split at h1
       ·rename_i hl
        cases h1
        exact OQk.b ho hw (bQ.fH hb) hl ih'
       ·cases h1
      ·cases h1
    ·cases h1
   ·cases hr
  ·cases hr
theorem OQk.aG (L : List Nat) {st' : St} (hst : bk L st = some st') (h : OQk P ops k st' Q) : OQk P ops k st Q :=
 fun a w g hr => h a w g (hr.bk hst)
theorem OQk.case (b : Bool) (S : Bool → St) (h0 : st = S b) (hT : b = true → OQk P ops k (S true) Q) (hF : b = false → OQk P ops k (S false) Q) : OQk P ops k st Q := by
 subst h0
 cases b
 ·exact hF rfl
 ·exact hT rfl
theorem ri {a : Act} {w : World} {g : Gh} (hrel : Rel st a w g) {o : Oper} {c : Call} {kk : tV} {r : SV} {H' : List ar} (hop : o.op = .call c) (hc : jH P st [] c = some kk) (hp : SC P true kk.f kk.args (st.H.mapIdx (gk kk.ls)) r H') :
  ∃ args, (execOp a.eval o).run P w = .ok (.enter kk.f args) w ∧ Calls P kk.f args w fun e w' => ∃ v g', e = .returned v ∧ nu g' w' v r ∧ Fr true (g.ren (ak kk.ls kk.gs)) w g' w' := by
 unfold jH at hc
 split at hc
 ·rename_i fo hcallee
  split at hc
  ·rename_i f first caps hfo
   split at hc
   ·rename_i ss ls gs hargs
    split at hc
    ·rename_i hok
     cases hc
     rw [Bool.and_eq_true] at hok
     obtain ⟨hgive, hfn⟩ := hok
     have hgs := iH hgive
     have hrf := bw hrel hfo
     obtain ⟨vf, vc, hev, lf, lc, rf, rc⟩ : ∃ vf vc : Array Value, a.eval fo = .func (.func f) vf vc ∧ vf.size = first.length ∧ vc.size = caps.length ∧
       (∀ (j : Nat) (y : D), first[j]? = some y → ∃ u, vf[j]? = some u ∧ Rd g w u y) ∧ (∀ (j : Nat) (y : D), caps[j]? = some y → ∃ u, vc[j]? = some u ∧ Rd g w u y) := by
      generalize a.eval fo = v at hrf
      cases hrf with
      | fn hl1 hl2 us1 us2 hc1 hr1 hc2 hr2 => exact ⟨_, _, rfl, hl1, hl2, fun j y hj => ⟨us1 j, hc1 j y hj, hr1 j y hj⟩, fun j y hj => ⟨us2 j, hc2 j y hj, hr2 j y hj⟩⟩
     obtain ⟨la, ra⟩ := dW hrel hgs hargs (fun _ h => h) (fun _ h => h)
     have hexec : (execOp a.eval o).run P w = .ok (.enter f (vf ++ c.args.map a.eval ++ vc)) w := by
      unfold execOp
      rw [hop]
      exact l6 hcallee hev hfn w
     refine ⟨_, hexec, ?_⟩
     have hRA : fj (g.ren (ak ls gs)) w (vf ++ c.args.map a.eval ++ vc) (first.map .d ++ ss ++ caps.map .d) := by
      have hla : (c.args.map a.eval).size = ss.length := by rw [← la]; simp
      have hla' : c.args.size = ss.length := by rw [← la]; simp
      refine ⟨by simp [lf, lc, ← la], fun j s hj => ?_⟩
      have kp : ∀ {v : Value} {d : D}, Rd g w v d → Rd (g.ren (ak ls gs)) w v d := fun hr => hr.aG (az.ren rfl) (fun _ _ h => h)
      by_cases j1 : j < first.length
      ·rw [List.append_assoc, List.getElem?_append_left (by simpa using j1), List.getElem?_map] at hj
       simp only [Option.map_eq_some_iff] at hj
       obtain ⟨d, hd, rfl⟩ := hj
       obtain ⟨u, e1, e2⟩ := rf j d hd
       exact ⟨u, by rw [Array.append_assoc, Array.getElem?_append_left (by omega)]; exact e1, kp e2⟩
      ·by_cases j2 : j < first.length + ss.length
       ·rw [List.getElem?_append_left (by simp; omega), List.getElem?_append_right (by simp; omega)] at hj
        simp only [List.length_map] at hj
        obtain ⟨x, e1, e2⟩ := ra _ s hj
        refine ⟨a.eval x, ?_, by rw [show first.length + (j - first.length) = j by omega] at e2; exact e2⟩
        rw [Array.getElem?_append_left (by simp [lf]; omega), Array.getElem?_append_right (by omega), Array.getElem?_map, lf]
        rw [Array.getElem?_toList] at e1
        rw [e1]; rfl
       ·rw [List.getElem?_append_right (by simp; omega), List.getElem?_map] at hj
        simp only [Option.map_eq_some_iff, List.length_append, List.length_map] at hj
        obtain ⟨d, hd, rfl⟩ := hj
        obtain ⟨u, e1, e2⟩ := rc _ d hd
        refine ⟨u, ?_, kp e2⟩
        rw [Array.getElem?_append_right (by simp [lf]; omega)]
        simpa [lf, ← la] using e1
     refine (hp w (g.ren (ak ls gs)) _ hRA (hrel.hp.s4 (ls := ls) (gs := gs))).mono fun e w' hh => ?_
     obtain ⟨v, g', rfl, hres, -, hf⟩ := hh
     exact ⟨v, g', rfl, hres, hf⟩
    ·cases hc
   ·cases hc
  ·cases hc
 ·cases hc
theorem sw {g g' : Gh} {w w' : World} {ls : List Loc} (h : Fr true (g.ren (ak ls [])) w g' w') : UpW w w' := by
 refine ⟨h.size, fun k o hk => ?_, h.os⟩
 have key : (g.ren (ak ls [])).ow k = ak ls [] (g.ow k) := rfl
 have hex : ∀ o', ak ls [] o' = .free ∨ ak ls [] o' = .out ∨ (∃ i, ak ls [] o' = .obj i) ∨ ∃ i j, ak ls [] o' = .lst (.ai i j) := fun o' => by
  cases o' with
  | free => exact .inl rfl
  | out => exact .inr (.inl rfl)
  | box t => exact .inr (.inl rfl)
  | obj i => exact .inr (.inr (.inl ⟨i, rfl⟩))
  | lst l =>
   simp only [ak]
   split
   ·exact .inl rfl
   ·cases l with
    | ai i j => exact .inr (.inr (.inr ⟨i, j, rfl⟩))
    | slot s => exact .inr (.inl rfl)
    | _ => exact .inr (.inl rfl)
 rcases hex (g.ow k) with e | e | ⟨i, e⟩ | ⟨i, j, e⟩
 ·exact (h.free k o (key.trans e) hk).2
 ·exact (h.out k o (key.trans e) hk).2
 ·exact (h.obj rfl i k o (key.trans e) hk).2
 ·exact (h.ai rfl i j k o (key.trans e) hk).2
theorem OQk.call {o : Oper} {c : Call} {f : FuncId} {args : List SV} {ls : List Loc} {r : SV} {v : Value} {H' : List ar} (ho : ops[k]? = some o) (hw : cV ops st o = some true) (hop : o.op = .call c)
  (hc : jH P st [] c = some ⟨f, args, ls, []⟩) (hp : SC P true f args (st.H.mapIdx (gk ls)) r H') (hr : xZ r = some v) (h : OQk P ops (k + 1) (st.put o.dst r) Q) : OQk P ops k st Q := by
 unfold OQk at h ⊢
 rw [drop_cons ho]
 intro a w g hrel Qc hq
 unfold wpQuiet
 rw [aN hrel hw, if_pos rfl]
 cases r with
 | d x =>
  -- the value reads as that in the world of now too: it is told by the data
  refine ⟨v, fun w' hw' => ?_, h _ w g (hrel.b9 o.dst (v := v) ?_) Qc hq⟩
  ·obtain ⟨as, e1, e2⟩ := ri (hw'.rel hrel) hop hc hp
   unfold Oper.quietAt
   rw [e1]
   refine ⟨rfl, e2.mono fun e w'' hh => ?_⟩
   obtain ⟨v', g', rfl, hres, hf⟩ := hh
   have hrd : Rd g' w'' v' x := hres
   refine ⟨by rw [vU hrd hr], ?_⟩
   have := sw hf
   exact ⟨Nat.le_trans hw'.1 this.1, fun k o hk => this.2.1 k o (hw'.2.1 k o hk), hw'.2.2.trans this.2.2⟩
  ·exact xY hr
 | tup vs =>
  simp only [xZ, Option.map_eq_some_iff] at hr
  obtain ⟨us, hr, rfl⟩ := hr
  obtain ⟨hl, hg⟩ := re hr
  refine ⟨.tuple us.toArray, fun w' hw' => ?_, h _ w g (hrel.put o.dst fun t _ _ => ?_) Qc hq⟩
  ·obtain ⟨as, e1, e2⟩ := ri (hw'.rel hrel) hop hc hp
   unfold Oper.quietAt
   rw [e1]
   refine ⟨rfl, e2.mono fun e w'' hh => ?_⟩
   obtain ⟨v', g', rfl, hres, hf⟩ := hh
   obtain ⟨us', rfl, hl', hg'⟩ := hres
   refine ⟨?_, ?_⟩
   ·congr 2
    apply Array.ext'
    apply List.ext_getElem?
    intro j
    by_cases hj : j < vs.length
    ·obtain ⟨u, x, e1, e2, e3⟩ := hg j vs[j] (by simp [hj])
     obtain ⟨u', e4, e5⟩ := hg' j vs[j] (by simp [hj])
     rw [e2] at e5
     have hrd : Rd g' w'' u' x := e5
     have := vU hrd e3
     rw [Array.getElem?_toList, e4, this]
     simpa using e1.symm
    ·rw [List.getElem?_eq_none (by simpa [hl'] using (by omega : vs.length ≤ j)), List.getElem?_eq_none (by simpa [hl] using (by omega : vs.length ≤ j))]
   ·have := sw hf
    exact ⟨Nat.le_trans hw'.1 this.1, fun k o hk => this.2.1 k o (hw'.2.1 k o hk), hw'.2.2.trans this.2.2⟩
  ·refine ⟨us.toArray, rfl, by simpa using hl, fun j s hj => ?_⟩
   obtain ⟨u, x, e1, rfl, e3⟩ := hg j s hj
   exact ⟨u, by simpa using e1, (xY e3 : Rd _ _ u x)⟩
 | _ => simp [xZ] at hr
where
 vV {g : Gh} {w : World} {u : Value} {d : D} (hd : nS d = some u) : Rd g w u d := by
  unfold nS at hd
  split at hd
  ·cases hd
   exact .fn rfl rfl (fun _ => undef) (fun _ => undef) (by simp) (by simp) (by simp) (by simp)
  ·exact xp hd
 ya {u : Value} {d : D} (hd : nS d = some u) : u.oneCell' = true := by
  cases d <;> simp only [nS, ic, Option.map_eq_some_iff, Option.some.injEq, reduceCtorEq] at hd
  all_goals first
   | (subst hd; rfl)
   | (obtain ⟨_, _, rfl⟩ := hd; rfl)
   | (split at hd <;> first | (cases hd; rfl) | (simp [ic] at hd))
 vT {g : Gh} {w : World} : ∀ {cs : List D} {vs : List Value}, nR cs = some vs → vs.length = cs.length ∧ ∀ (j : Nat) (y : D), cs[j]? = some y → ∃ u, vs[j]? = some u ∧ Rd g w u y ∧ u.oneCell' = true
  | [], vs, h => by simp [nR] at h; subst h; simp
  | d :: ds, vs, h => by
   simp only [nR] at h
   split at h
   ·rename_i v vs' h1 h2
    cases h
    obtain ⟨hl, hr⟩ := vT (g := g) (w := w) h2
    refine ⟨by simp [hl], fun j y hj => ?_⟩
    cases j with
    | zero => simp at hj; subst hj; exact ⟨v, by simp, vV h1, ya h1⟩
    | succ j => simpa using hr j y (by simpa using hj)
   ·cases h
 xY {g : Gh} {w : World} {u : Value} {d : D} (hd : uT d = some u) : Rd g w u d := by
  unfold uT at hd
  split at hd
  ·simp only [Option.map_eq_some_iff] at hd
   obtain ⟨vs, h1, rfl⟩ := hd
   obtain ⟨hl, hr⟩ := vT (g := g) (w := w) h1
   exact Rd.yu (by simpa using hl) (fun j y hj => by simpa using hr j y hj)
  ·exact vV hd
theorem SW.cw {id : Nat} {l : List Oper} {Q : Exit → St → Prop} (hm : P.follows .mixedOrders = true) (hB : Region.lexB .any l.toArray = true) (h : OQk P l.toArray 0 st (Q .normal)) : SW P pu (.region id l.toArray true) st Q := by
 intro a w g hr
 refine wp_region_quiet (C := UpW w.drew) hm hB ⟨Nat.le_refl _, fun _ _ h => h, cq.refl _⟩ ?_
 unfold OQk at h
 rw [List.drop_zero] at h
 exact h a w.drew g hr.drew _ fun st' a' g' q r f w' hw' => ⟨st', g', q, hw'.rel r, (Fr.drew.trans (f pu)).trans (hw'.fr g')⟩
variable (n : Nat) (H : List ar)
theorem OQk.sg (bP L : List Nat) (j : Nat) (l : List (Nat × SV)) (hr : (ct P bP ops j k st).bind (aV n L) = some (l, H)) (h : OQk P ops (k + j) (sp n l H) Q) : OQk P ops k st Q := by
 have := gd hr
 simp only [Option.bind_eq_some_iff] at this
 obtain ⟨st1, h1, h2⟩ := this
 exact OQk.seg j h1 (OQk.aG L h2 h)
theorem OQk.mg (L : List Nat) (j : Nat) (b : Bool) (S : Bool → St) (l : Bool → List (Nat × SV)) (h0 : st = S b) (hT : (ct P [] ops j k (S true)).bind (aV n L) = some (l true, H)) (hF : (ct P [] ops j k (S false)).bind (aV n L) = some (l false, H))
  (h : OQk P ops (k + j) (sp n (l b) H) Q) : OQk P ops k st Q := by
 subst h0
 exact OQk.sg n H [] L j (l b) (by cases b <;> assumption) h
theorem OQk.on {d : Option Tmp} {s : SV} (L : List Nat) (l : List (Nat × SV)) (hb : BAt P ops k st d s) (hst : aV n L (st.put d s) = some (l, H)) (h : OQk P ops (k + 1) (sp n l H) Q) : OQk P ops k st Q := by
 obtain ⟨o, h1, h2, h3, h4, rfl⟩ := hb
 exact OQk.b h1 h2 h3 h4 (OQk.aG L (ay hst) h)
theorem OQk.cl {f : FuncId} {args : List SV} {ls : List Loc} {d : Option Tmp} {r : SV} (L : List Nat) (l : List (Nat × SV)) (hp : PC P f args r) (h : dE P ops k st [] = some (d, f, args, ls, [])) (hr : (xZ r).isSome = true)
  (hst : aV n L (st.put d r) = some (l, H)) (hn : OQk P ops (k + 1) (sp n l H) Q) : OQk P ops k st Q := by
 unfold dE at h
 split at h
 ·rename_i o ho
  split at h
  ·rename_i c hop
   split at h
   ·rename_i cs hcs
    simp only [Option.some.injEq, Prod.mk.injEq] at h
    obtain ⟨rfl, rfl, rfl, rfl, h5⟩ := h
    obtain ⟨h1, h2⟩ := aW ho
    obtain ⟨v, hv⟩ := Option.isSome_iff_exists.1 hr
    refine OQk.call (ls := cs.ls) h1 h2 hop ?_ (hp _) hv (OQk.aG L (ay hst) hn)
    rw [hcs, ← h5]
   ·cases h
  ·cases h
 ·cases h
end
end Go.Sh
namespace Go.Sh
section
variable {P : Program} {pu : Bool} {st : St} {ops : Array Oper} {k m : Nat} {Q : St → Prop}
theorem OQk.lit (S : Int → St) {e j : Int} (h0 : st = S e) (hc : (e == j) = true) (h : OQk P ops k (S j) Q) : OQk P ops k st Q := by
 subst h0
 rw [eq_of_beq hc]; exact h
end
end Go.Sh
namespace Go.Sh
section
variable {P : Program} {pu : Bool} {st : St}
end
end Go.Sh
namespace Go.Sh
section
variable {P : Program} {pu : Bool} {st : St} {ops : Array Oper} {k : Nat} {Q : St → Prop}
end
end Go.Sh
namespace Go.Sh
section
variable {P : Program} {pu : Bool} {st : St} {ops : Array Oper} {k : Nat} {Q : St → Prop}
end
end Go.Sh
namespace Go.Sh
def NQ (R : Act → World → Prop) : Exit → Act → World → Prop := fun e a w => e = .normal ∧ R a w
theorem NQ.out {R : Act → World → Prop} : ¬ LetsOut (NQ R) := fun ⟨_, _, h, _⟩ => by cases h
section
variable {P : Program} {ops : Array Oper} {md : Region.Mode} {R : Act → World → Prop}
theorem uU (a : Act) (ds : List Deferred) (d : Option Tmp) (v : Value) : ({ a.put d v with defers := ds } : Act) = ({ a with defers := ds } : Act).put d v := by cases d <;> rfl
theorem bZ (a : Act) (d : Option Tmp) (v : Value) : (a.put d v).defers = a.defers := by cases d <;> rfl
theorem tq (a : Act) (ds : List Deferred) (x : Operand) : ({ a with defers := ds } : Act).eval x = a.eval x := by cases x <;> rfl
end
end Go.Sh
namespace Go.Sh
section
variable {P : Program} {ops : Array Oper} {md : Region.Mode} {w : World} {hds : List Nat} {t0 : Nat} {ts : List Nat}
def opsOf (ops : Array Oper) (is : List Nat) : List Oper := is.filterMap (ops[·]?)
end
end Go.Sh
namespace Go.Sh
section
variable {P : Program} {pu : Bool} {st : St}
theorem kK {o : Oper} (h : o.guard = none) (f : Nat → Option Bool) : Region.wanted o f = true := by unfold Region.wanted; rw [h]
theorem oM {ops ops' : Array Oper} {w : World} {Q : Act → Prop} : ∀ {l : List Oper} {a : Act}, (∀ o ∈ l, o.guard = none) → wpStill P ops' w Q l a → wpStill P ops w Q l a
 | [], _, _, h => h
 | o :: l, a, hg, h => by
  unfold wpStill at h ⊢
  rw [if_pos (kK (hg o (by simp)) _)] at h ⊢
  exact Oper.still_mono (fun a' h' => oM (fun o ho => hg o (by simp [ho])) h') h
theorem pj {ops : Array Oper} (h : ops.all (fun o => o.guard.isNone) = true) (is : List Nat) : ∀ o ∈ opsOf ops is, o.guard = none := fun o ho => by
 simp only [opsOf, List.mem_filterMap] at ho
 obtain ⟨i, -, hi⟩ := ho
 rw [Array.all_eq_true'] at h
 simpa using h o (Array.mem_of_getElem? hi)
end
end Go.Sh
namespace Go.Sh
inductive kH where
 | int (k : IntKind)
 | str
def iP (P : Program) (K : TypeId) : Option kH :=
 match P.underlying K with
 | some (.int k) => some (.int k)
 | some .string => some .str
 | _ => none
def kH.desc : kH → TypeDesc
 | .int k => .int k
 | .str => .string
def isKey : kH → D → Bool
 | .int k, .int k' _ => k == k'
 | .str, .str _ => true
 | _, _ => false
def l5 : D → D → Bool
 | .int _ a, .int _ b => a == b
 | .str a, .str b => a == b
 | _, _ => false
def ij (x : D) : List (D × D) → Nat → Option (Nat × D)
 | [], _ => none
 | (k, v) :: es, i => if l5 x k then some (i, v) else ij x es (i + 1)
theorem lh (a b : List UInt8) : (mk a == mk b) = (a == b) := by
 show ((⟨a⟩ : Array UInt8) == ⟨b⟩) = _
 simp
theorem sH {g : Gh} {w : World} {T : kH} {x y : D} {u v : Value} (hx : isKey T x = true) (hy : isKey T y = true) (hu : Rd g w u x) (hv : Rd g w v y) (d : TypeDesc) (hd : d = T.desc) :
  Instr.sameNow d u v = some (l5 x y) := by
 cases T with
 | int k =>
  cases x <;> simp only [isKey, Bool.false_eq_true] at hx
  cases y <;> simp only [isKey, Bool.false_eq_true] at hy
  cases hu; cases hv
  simp only [beq_iff_eq] at hx hy
  subst hx; subst hy; subst hd
  simp [Instr.sameNow, l5, kH.desc]
 | str =>
  cases x <;> simp only [isKey, Bool.false_eq_true] at hx
  cases y <;> simp only [isKey, Bool.false_eq_true] at hy
  cases hu; cases hv
  subst hd
  simp [Instr.sameNow, l5, lh, kH.desc]
theorem nO {g : Gh} {w : World} {T : kH} {x : D} {u : Value} (hx : isKey T x = true) (hu : Rd g w u x) (d : TypeDesc) (hd : d = T.desc) :
  ∀ (ms : List MapEntry) (es : List (D × D)) (i : Nat), ms.length = es.length → (∀ (j : Nat) (p : D × D), es[j]? = some p → ∃ m, ms[j]? = some m ∧ Rd g w m.key p.1 ∧ Rd g w m.val p.2) → (∀ p ∈ es, isKey T p.1 = true) →
  ∃ r, Instr.findNow d u ms i = some r ∧ ((ij x es i = none ∧ r = none) ∨ ∃ j y v, ij x es i = some (j, y) ∧ r = some (j, v) ∧ Rd g w v y)
 | [], [], i, _, _, _ => ⟨none, rfl, .inl ⟨rfl, rfl⟩⟩
 | [], _ :: _, i, h, _, _ => by simp at h
 | _ :: _, [], i, h, _, _ => by simp at h
 | m :: ms, (k, y) :: es, i, hl, hr, hk => by
  obtain ⟨m', e1, e2, e3⟩ := hr 0 (k, y) rfl
  simp only [List.getElem?_cons_zero, Option.some.injEq] at e1
  subst e1
  have hs := sH hx (hk (k, y) (by simp)) hu e2 d hd
  simp only [Instr.findNow, ij, hs]
  cases hb : l5 x k with
  | true => exact ⟨_, rfl, .inr ⟨i, y, m.val, by simp, rfl, e3⟩⟩
  | false =>
   obtain ⟨r, h1, h2⟩ := nO hx hu d hd ms es (i + 1) (by simpa using hl) (fun j p hj => by simpa using hr (j + 1) p (by simpa using hj)) (fun p hp => hk p (by simp [hp]))
   exact ⟨r, h1, by simpa using h2⟩
end Go.Sh
namespace Go.Sh
structure Cd (α : Type) where
 enc : α → D
 dec : D → Option α
 de : ∀ d x, dec d = some x → d = enc x
 ed : ∀ x, dec (enc x) = some x
def cI (k : IntKind) : Cd Int where
 enc := .int k
 dec | .int k' n => if k' = k then some n else none
     | _ => none
 de d x h := by
  cases d <;> simp only [reduceCtorEq] at h
  split at h
  ·rename_i e; cases h; rw [e]
  ·cases h
 ed x := by simp
def cB : Cd Bool where
 enc := .bool
 dec | .bool b => some b
     | _ => none
 de d x h := by cases d <;> simp only [reduceCtorEq] at h; cases h; rfl
 ed x := rfl
def cS : Cd (List UInt8) where
 enc := .str
 dec | .str b => some b
     | _ => none
 de d x h := by cases d <;> simp only [reduceCtorEq] at h; cases h; rfl
 ed x := rfl
def cP : Cd (Option Nat) where
 enc | none => .aL
     | some i => .ptr i 0
 dec | .aL => some none
     | .ptr i 0 => some (some i)
     | _ => none
 de d x h := by
  cases d with
  | ptr i off => cases off <;> simp only [reduceCtorEq] at h; cases h; rfl
  | aL => cases h; rfl
  | _ => cases h
 ed x := by cases x <;> rfl
def cM : Cd (Option Nat) where
 enc | none => .et
     | some i => .map i
 dec | .et => some none
     | .map i => some (some i)
     | _ => none
 de d x h := by cases d <;> simp only [reduceCtorEq] at h <;> (cases h; rfl)
 ed x := by cases x <;> rfl
theorem jw {α : Type} (c : Cd α) : ∀ (ds : List D) (xs : List α), ds.mapM c.dec = some xs → ds = xs.map c.enc
 | [], xs, h => by simp at h; subst h; rfl
 | d :: ds, xs, h => by
  simp only [List.mapM_cons, Option.bind_eq_bind, Option.bind_eq_some_iff] at h
  obtain ⟨x, h1, ys, h2, h3⟩ := h
  cases h3
  rw [List.map_cons, ← c.de d x h1, ← jw c ds ys h2]
theorem mn {α : Type} (c : Cd α) : ∀ xs : List α, (xs.map c.enc).mapM c.dec = some xs
 | [] => rfl
 | x :: xs => by simp [c.ed, mn c xs]
def cL {α : Type} (n : Nat) (c : Cd α) : Cd (List α) where
 enc xs := .list n (xs.map c.enc)
 dec | .list n' ds => if n' = n then ds.mapM c.dec else none
     | _ => none
 de d x h := by
  cases d <;> simp only [reduceCtorEq] at h
  split at h
  ·rename_i e; subst e; rw [← jw c _ _ h]
  ·cases h
 ed x := by show (if n = n then (x.map c.enc).mapM c.dec else none) = _; rw [if_pos rfl, mn]
structure Cc (α : Type) where
 enc : α → List SV
 dec : List SV → Option (α × List SV)
 de : ∀ l x r, dec l = some (x, r) → l = enc x ++ r
 ed : ∀ x r, dec (enc x ++ r) = some (x, r)
def Cd.cell {α : Type} (c : Cd α) : Cc α where
 enc x := [.d (c.enc x)]
 dec | .d d :: r => (c.dec d).map (·, r)
     | _ => none
 de l x r h := by
  split at h
  ·rename_i d r'
   simp only [Option.map_eq_some_iff, Prod.mk.injEq] at h
   obtain ⟨y, h1, rfl, rfl⟩ := h
   rw [c.de d y h1]; rfl
  ·cases h
 ed x r := by simp [c.ed]
def Cc.pair {α β : Type} (a : Cc α) (b : Cc β) : Cc (α × β) where
 enc p := a.enc p.1 ++ b.enc p.2
 dec l := (a.dec l).bind fun p => (b.dec p.2).map fun q => ((p.1, q.1), q.2)
 de l x r h := by
  simp only [Option.bind_eq_some_iff, Option.map_eq_some_iff, Prod.mk.injEq] at h
  obtain ⟨p, h1, q, h2, h3, h4⟩ := h
  subst h3; subst h4
  rw [a.de l p.1 p.2 h1, List.append_assoc, b.de p.2 q.1 q.2 h2]
 ed x r := by
  rw [List.append_assoc, a.ed]
  simp [b.ed]
structure Cl (α : Type) where
 enc : α → List D
 dec : List D → Option (α × List D)
 de : ∀ l x r, dec l = some (x, r) → l = enc x ++ r
 ed : ∀ x r, dec (enc x ++ r) = some (x, r)
def Cd.one {α : Type} (c : Cd α) : Cl α where
 enc x := [c.enc x]
 dec | d :: r => (c.dec d).map (·, r)
     | _ => none
 de l x r h := by
  split at h
  ·rename_i d r'
   simp only [Option.map_eq_some_iff, Prod.mk.injEq] at h
   obtain ⟨y, h1, rfl, rfl⟩ := h
   rw [c.de d y h1]; rfl
  ·cases h
 ed x r := by simp [c.ed]
def Cl.pair {α β : Type} (a : Cl α) (b : Cl β) : Cl (α × β) where
 enc p := a.enc p.1 ++ b.enc p.2
 dec l := (a.dec l).bind fun p => (b.dec p.2).map fun q => ((p.1, q.1), q.2)
 de l x r h := by
  simp only [Option.bind_eq_some_iff, Option.map_eq_some_iff, Prod.mk.injEq] at h
  obtain ⟨p, h1, q, h2, h3, h4⟩ := h
  subst h3; subst h4
  rw [a.de l p.1 p.2 h1, List.append_assoc, b.de p.2 q.1 q.2 h2]
 ed x r := by
  rw [List.append_assoc, a.ed]
  simp [b.ed]
def Cl.iso {α β : Type} (a : Cl α) (f : α → β) (g : β → α) (fg : ∀ x, f (g x) = x) (gf : ∀ x, g (f x) = x) : Cl β where
 enc x := a.enc (g x)
 dec l := (a.dec l).map fun p => (f p.1, p.2)
 de l x r h := by
  simp only [Option.map_eq_some_iff, Prod.mk.injEq] at h
  obtain ⟨p, h1, rfl, rfl⟩ := h
  rw [gf]; exact a.de l p.1 p.2 h1
 ed x r := by simp [a.ed, fg]
def Cl.agg {α : Type} (a : Cl α) : Cd α where
 enc x := .agg (a.enc x)
 dec | .agg l => match a.dec l with | some (x, []) => some x | _ => none
     | _ => none
 de d x h := by
  cases d <;> simp only [reduceCtorEq] at h
  split at h
  ·rename_i y h1
   cases h
   rw [a.de _ _ _ h1, List.append_nil]
  ·cases h
 ed x := by
  have := a.ed x []
  rw [List.append_nil] at this
  simp [this]
def pg : List SV → List D × List SV
 | .d d :: r => ((d :: (pg r).1), (pg r).2)
 | l => ([], l)
theorem rI : ∀ l : List SV, l = (pg l).1.map .d ++ (pg l).2
 | [] => rfl
 | s :: r => by
  cases s with
  | d x => simp only [pg, List.map_cons, List.cons_append]; rw [← rI r]
  | _ => rfl
theorem sR : ∀ (ds : List D) (r : List SV), pg (ds.map .d ++ r) = (ds ++ (pg r).1, (pg r).2)
 | [], r => rfl
 | d :: ds, r => by simp only [List.map_cons, List.cons_append, pg]; rw [sR ds r]
def Cl.cells {α : Type} (a : Cl α) : Cc α where
 enc x := (a.enc x).map .d
 dec l := (a.dec (pg l).1).map fun p => (p.1, p.2.map .d ++ (pg l).2)
 de l x r h := by
  simp only [Option.map_eq_some_iff, Prod.mk.injEq] at h
  obtain ⟨p, h1, rfl, rfl⟩ := h
  have := a.de _ p.1 p.2 h1
  rw [← List.append_assoc, ← List.map_append, ← this]
  exact rI l
 ed x r := by
  rw [sR]
  simp only [a.ed, Option.map_some, Option.some.injEq, Prod.mk.injEq, true_and]
  exact (rI r).symm
structure Kc (K : Type) [BEq K] where
 c : Cd K
 kt : kH
 isK : ∀ x, isKey kt (c.enc x) = true
 same : ∀ a b, l5 (c.enc a) (c.enc b) = (a == b)
def kI (k : IntKind) : Kc Int := ⟨cI k, .int k, fun _ => by simp [cI, isKey], fun _ _ => rfl⟩
abbrev Hp := List ar
def fL (H : Hp) (i : Nat) : Option (List SV) := match H[i]? with | some (.cells cs) => some cs | _ => none
theorem ff {H : Hp} {i : Nat} {cs : List SV} (h : fL H i = some cs) : H[i]? = some (.cells cs) := by
 unfold fL at h
 split at h
 ·cases h; assumption
 ·cases h
def bg {α : Type} (c : Cc α) (H : Hp) (i off : Nat) : Option α := (fL H i).bind fun cs => (c.dec (cs.drop off)).map (·.1)
theorem zr {α : Type} {c : Cc α} {H : Hp} {i off : Nat} {x : α} (h : bg c H i off = some x) : ∃ cs r, H[i]? = some (.cells cs) ∧ cs.drop off = c.enc x ++ r := by
 unfold bg at h
 simp only [Option.bind_eq_some_iff, Option.map_eq_some_iff] at h
 obtain ⟨cs, h1, ⟨y, r⟩, h2, rfl⟩ := h
 exact ⟨cs, r, ff h1, c.de _ _ _ h2⟩
def tg (H : Hp) (i off : Nat) (ds : List D) : Option Hp := (fL H i).bind fun cs => if off + ds.length ≤ cs.length then some (H.set i (.cells (setCells cs off ds))) else none
theorem zp {H H' : Hp} {i off : Nat} {ds : List D} (h : tg H i off ds = some H') : ∃ cs, H[i]? = some (.cells cs) ∧ off + ds.length ≤ cs.length ∧ H' = H.set i (.cells (setCells cs off ds)) := by
 unfold tg at h
 simp only [Option.bind_eq_some_iff] at h
 obtain ⟨cs, h1, h2⟩ := h
 split at h2
 ·cases h2; exact ⟨cs, ff h1, by assumption, rfl⟩
 ·cases h2
def dA {α : Type} (c : Cd α) (H : Hp) (i off : Nat) (x : α) : Option Hp := tg H i off (c.enc x).cells
def mw (H : Hp) (o : ar) : Option (Hp × Nat) := some (H ++ [o], H.length)
def pL {K V : Type} [BEq K] (k : Kc K) (v : Cd V) (H : Hp) (m : Option Nat) : Option (List (K × V)) :=
 match m with
 | none => some []
 | some i => match H[i]? with
  | some (.map es) => es.mapM fun p => (k.c.dec p.1).bind fun a => (v.dec p.2).map fun b => (a, b)
  | _ => none
def fO {K V : Type} [BEq K] (k : Kc K) (v : Cd V) (p : K × V) : D × D := (k.c.enc p.1, v.enc p.2)
theorem vG {K V : Type} [BEq K] (k : Kc K) (v : Cd V) : ∀ (es : List (D × D)) (xs : List (K × V)), (es.mapM fun p => (k.c.dec p.1).bind fun a => (v.dec p.2).map fun b => (a, b)) = some xs → es = xs.map (fO k v)
 | [], xs, h => by simp at h; subst h; rfl
 | p :: es, xs, h => by
  simp only [List.mapM_cons, Option.bind_eq_bind, Option.bind_eq_some_iff, Option.map_eq_some_iff] at h
  obtain ⟨q, ⟨a, ha, b, hb, rfl⟩, ys, h2, h3⟩ := h
  cases h3
  rw [List.map_cons, ← vG k v es ys h2]
  congr 1
  exact Prod.ext (k.c.de _ _ ha) (v.de _ _ hb)
theorem vF {K V : Type} [BEq K] (k : Kc K) (v : Cd V) : ∀ xs : List (K × V), ((xs.map (fO k v)).mapM fun p => (k.c.dec p.1).bind fun a => (v.dec p.2).map fun b => (a, b)) = some xs
 | [] => rfl
 | x :: xs => by
  rw [List.map_cons, List.mapM_cons, vF k v xs]
  simp [fO, k.c.ed, v.ed]
theorem oJ {K V : Type} [BEq K] {k : Kc K} {v : Cd V} {H : Hp} {i : Nat} {es : List (K × V)} : pL k v H (some i) = some es ↔ H[i]? = some (.map (es.map (fO k v))) := by
 constructor
 ·intro h
  simp only [pL] at h
  split at h
  ·rename_i es' h1; rw [h1, ← vG k v _ _ h]
  ·cases h
 ·intro h
  simp only [pL, h]
  exact vF k v es
def pM {K V : Type} [BEq K] (k : Kc K) (v : Cd V) (H : Hp) (m : Option Nat) (x : K) : Option (Option V) := (pL k v H m).map fun es => es.lookup x
def qk {K V : Type} [BEq K] (x : K) (y : V) : List (K × V) → List (K × V)
 | [] => [(x, y)]
 | (a, b) :: es => if x == a then (x, y) :: es else (a, b) :: qk x y es
def pK {K V : Type} [BEq K] (k : Kc K) (v : Cd V) (H : Hp) (m : Option Nat) (x : K) (y : V) : Option Hp :=
 m.bind fun i => (pL k v H (some i)).map fun es => H.set i (.map ((qk x y es).map (fO k v)))
end Go.Sh
namespace Go.Sh
theorem RO.jD {g g' : Gh} {w w' : World} {i : Nat} {o : ar} (h0 : az .free g w g' w') (h1 : az (.obj i) g w g' w') (h2 : ∀ j, az (.lst (.ai i j)) g w g' w') (hρ : ck g g') (h : RO g w i o) : RO g' w' i o := by
 cases o with
 | cells cs =>
  obtain ⟨k, c, T, hr, ho, hb, hs, hc⟩ := h
  obtain ⟨ho', hb'⟩ := h1 k _ ho hb
  exact ⟨k, c, T, hρ _ _ hr, ho', hb', hs, fun j s hj => let ⟨u, a1, a2, a3⟩ := hc j s hj; ⟨u, a1, a2.aG h0 (h2 j) hρ, a3⟩⟩
 | map es =>
  obtain ⟨k, ms, clock, hr, ho, hb, hs, hbo, hc⟩ := h
  obtain ⟨ho', hb'⟩ := h1 k _ ho hb
  exact ⟨k, ms, clock, hρ _ _ hr, ho', hb', hs, hbo, fun j p hj => let ⟨m, a1, a2, a3⟩ := hc j p hj; ⟨m, a1, a2.aG h0 hρ, a3.aG h0 hρ⟩⟩
 | hole => trivial
 | iter kb clock =>
  obtain ⟨k, hr, ho, hb⟩ := h
  obtain ⟨ho', hb'⟩ := h1 k _ ho hb
  exact ⟨k, hρ _ _ hr, ho', hb'⟩
 | zk kb clock ms es =>
  obtain ⟨hr, ho, hb, hs, hbo, hc⟩ := h
  obtain ⟨ho', hb'⟩ := h1 kb _ ho hb
  exact ⟨hρ _ _ hr, ho', hb', hs, hbo, fun j p hj => let ⟨m, a1, a2, a3⟩ := hc j p hj; ⟨m, a1, a2.aG h0 hρ, a3.aG h0 hρ⟩⟩
 | bld T e bs =>
  obtain ⟨k, p, v, hr, ho, hb⟩ := h
  obtain ⟨ho', hb'⟩ := h1 k _ ho hb.1
  exact ⟨k, p, v, hρ _ _ hr, ho', hb.aG (h2 1) (hb'.trans hb.1.symm)⟩
theorem iT {t : Nat} {s : SV} {i : Nat} : ¬ eS t s (.obj i) := by cases s <;> simp [eS]
section
variable {P : Program} {st : St}
def St.hp (st : St) (H : List ar) : St := { st with H := H }
theorem Rel.setObj {a : Act} {w w' : World} {g : Gh} (hr : Rel st a w g) {i k : Nat} {o : ar} (hi : i < st.H.length) (hk : g.ρ[i]? = some k) (ho : g.ow k = .obj i) (hw : ∀ k', k' ≠ k → w'.heap[k']? = w.heap[k']?) (hn : RO g w' i o) :
  Rel (st.hp (st.H.set i o)) a w' g := by
 have hkp : ∀ o', o' ≠ .obj i → az o' g w g w' := fun o' h => az.block ho h hw
 refine Rel.step hr hr.len hr.cH (fun _ _ h => h) (fun t s hs => .inr (.inr ⟨hs, rfl, fun o' ho' => hkp o' (fun e => ?_), fun s' _ => ⟨rfl, fun x hx _ => ⟨x, hx, rfl⟩⟩⟩)) ⟨by simp [St.hp, hr.hp.1], fun i' o' hi' => ?_⟩
 ·subst e; exact iT ho'
 ·simp only [St.hp] at hi'
  by_cases e : i = i'
  ·subst e
   rw [List.getElem?_set_self hi] at hi'
   cases hi'
   exact hn
  ·rw [List.getElem?_set_ne e] at hi'
   exact (hr.hp.2 i' o' hi').jD (hkp _ (by simp)) (hkp _ (by simpa using Ne.symm e)) (fun j => hkp _ (by simp)) (fun _ _ h => h)
theorem Fr.setObj {g : Gh} {w w' : World} {i k : Nat} (ho : g.ow k = .obj i) (hs : w'.heap.size = w.heap.size) (hw : ∀ k', k' ≠ k → w'.heap[k']? = w.heap[k']?) (hos : cq w w' := by exact ⟨rfl, rfl⟩) : Fr false g w g w' :=
 ⟨by rw [hs]; exact Nat.le_refl _, az.block ho (by simp) hw, az.block ho (by simp) hw, fun _ _ h => h, nofun, nofun, nofun, hos⟩
theorem OpS.um {o : Oper} {T : TypeId} {x y : Operand} {i off : Nat} {d : D} {H' : List ar} (hop : o.op = .store T x y) (hd : o.dst = none) (hx : kZ st x = some (i, off)) (hy : bK st y = some d) (hu : (P.underlying T).isNone = false)
  (hsz : d.cells.length = P.cellsOf T) (hH : tg st.H i off d.cells = some H') : OpS P false st o (st.hp H') := by
 refine OpS.skip fun a w g hr => ?_
 obtain ⟨cs, hi, hfit, rfl⟩ := zp hH
 obtain ⟨k, e1, e3⟩ := fZ hr hx
 obtain ⟨k', c, T0, f1, f2, f3, f4, f5⟩ := hr.hp.2 i _ hi
 rw [e1] at f1
 cases f1
 have hrd := bw hr hy
 obtain ⟨c1, c2⟩ := hrd.cells
 have hone : ∀ v ∈ (a.eval y).cells.toList, v.oneCell' = true := fun v hv => by
  obtain ⟨j, hj⟩ := List.mem_iff_getElem?.1 hv
  have hlt : j < d.cells.length := by rw [← c1]; have := aD hj; simpa using this
  obtain ⟨u, u1, u2, u3⟩ := c2 j d.cells[j] (by simp [hlt])
  have : u = v := by
   have hj' : (a.eval y).cells[j]? = some v := by simpa using hj
   rw [u1] at hj'; exact Option.some.inj hj'
  rw [← this]; exact u3
 obtain ⟨w', r1, r2, r3, c', r4, r5, r6⟩ := bx (P := P) k off T0 (a.eval y).cells.toList 0 c w f3 (by simp [c1]; omega) hone
 refine ⟨w', g, ?_, ?_, Fr.setObj f2 r2 r3 (bT (P := P) k off T0 (a.eval y).cells.toList 0 c w w' f3 (by simp [c1]; omega) hone r1)⟩
 ·unfold execOp; rw [hop]
  simp only [Instr.storeAt, Sem.run_bind, e3, Instr.sureAddr, Sem.run_pure, Result.andThen_ok, storeVar, dP hu]
  rw [if_neg (by rw [c1, hsz]; simp), r1]
  rfl
 ·rw [hd]
  refine hr.setObj (aD hi) e1 f2 r3 ⟨k, c', T0, e1, f2, r4, by rw [r5, f4, lZ (by omega)], fun j sv hj => ?_⟩
  have hkp : ∀ o', o' ≠ .obj i → az o' g w g w' := fun o' ho => az.block f2 ho r3
  rcases l4 (by omega) hj with ⟨h1, h2, y', h3, rfl⟩ | ⟨h1, h2⟩
  ·obtain ⟨u, u1, u2, u3⟩ := c2 _ _ h3
   refine ⟨u, ?_, Rd.aG (hkp _ (by simp)) (fun _ _ h => h) u2, u3⟩
   rw [r6, if_pos (by simp [c1]; omega)]
   simpa using u1
  ·obtain ⟨u, u1, u2, u3⟩ := f5 j sv h2
   refine ⟨u, ?_, u2.aG (hkp _ (by simp)) (hkp _ (by simp)) (fun _ _ h => h), u3⟩
   rw [r6, if_neg (by simp [c1]; omega)]
   exact u1
def Gh.new (g : Gh) (k i : Nat) : Gh := ⟨(g.upd k (.obj i)).ow, g.ρ ++ [k]⟩
theorem ck.new {g : Gh} {k i : Nat} : ck g (g.new k i) := fun j k' h => by
 simp only [Gh.new]
 rw [List.getElem?_append_left (aD h)]; exact h
theorem az.new {o' : Own} {g : Gh} {w : World} {ob : Obj} {i : Nat} : az o' g w (g.new w.heap.size i) (w.alloc ob) := by
 intro k b hk hb
 exact az.alloc (t := .obj i) (o := ob) k b hk hb
theorem Fr.new {g : Gh} {w : World} {ob : Obj} {i : Nat} : Fr false g w (g.new w.heap.size i) (w.alloc ob) :=
 ⟨by simp, az.new, az.new, ck.new, nofun, nofun, nofun, ⟨rfl, rfl⟩⟩
theorem Rel.newObj {a : Act} {w : World} {g : Gh} (hr : Rel st a w g) {ob : Obj} {o : ar} (hn : RO (g.new w.heap.size st.H.length) (w.alloc ob) st.H.length o) :
  Rel (st.hp (st.H ++ [o])) a (w.alloc ob) (g.new w.heap.size st.H.length) := by
 refine Rel.step hr hr.len hr.cH ck.new (fun t s hs => .inr (.inr ⟨hs, rfl, fun o' ho' => az.new, fun s' _ => ⟨rfl, fun x hx _ => ⟨x, hx, rfl⟩⟩⟩)) ⟨by simp [St.hp, Gh.new, hr.hp.1], fun i' o' hi' => ?_⟩
 simp only [St.hp] at hi'
 by_cases h : i' < st.H.length
 ·rw [List.getElem?_append_left h] at hi'
  exact (hr.hp.2 i' o' hi').jD az.new az.new (fun _ => az.new) ck.new
 ·rw [List.getElem?_append_right (by omega)] at hi'
  have h0 : i' - st.H.length = 0 := by
   have := aD hi'; simp at this; omega
  have : i' = st.H.length := by omega
  subst this
  rw [h0] at hi'
  cases hi'
  exact hn
theorem ml {g : Gh} {H : List ar} {w : World} (h : RH g w H) (k : Nat) : (g.new k H.length).ρ[H.length]? = some k := by
 simp only [Gh.new]
 rw [← h.1, List.getElem?_append_right (Nat.le_refl _)]
 simp
theorem xE {g : Gh} (k i : Nat) : (g.new k i).ow k = .obj i := by simp [Gh.new]
def fI (l : List (Nat × Nat × Bool)) (cs : List SV) : List SV := match l with
 | [] => cs
 | (j, n, b) :: l => fI l (match cs[j]? with | some (.d .bW) => cs.set j (if b then .own n [] else .d (.list n [])) | _ => cs)
theorem mi : ∀ (l : List (Nat × Nat × Bool)) (cs : List SV), (fI l cs).length = cs.length
 | [], cs => rfl
 | (j, n, b) :: l, cs => by
  rw [fI, mi l]
  split <;> simp
theorem mj {g : Gh} {w : World} {lo : Nat → Loc} {c : Array Value} : ∀ (l : List (Nat × Nat × Bool)) (cs : List SV), (∀ (j : Nat) (s : SV), cs[j]? = some s → ∃ u, c[j]? = some u ∧ RC g w (lo j) u s ∧ u.oneCell' = true) →
  ∀ (j : Nat) (s : SV), (fI l cs)[j]? = some s → ∃ u, c[j]? = some u ∧ RC g w (lo j) u s ∧ u.oneCell' = true
 | [], cs, h => h
 | (j0, n, b) :: l, cs, h => by
  refine mj l _ fun j s hj => ?_
  split at hj
  ·rename_i h0
   by_cases e : j0 = j
   ·subst e
    obtain ⟨u, u1, u2, u3⟩ := h j0 _ h0
    rw [List.getElem?_set_self (aD h0)] at hj
    have hn : Rd g w u .bW := u2
    obtain ⟨a, rfl⟩ := hn.gE
    refine ⟨_, u1, ?_, u3⟩
    cases b
    ·simp only [Bool.false_eq_true, if_false, Option.some.injEq] at hj
     subst hj
     exact Rd.iD
    ·simp only [if_true, Option.some.injEq] at hj
     subst hj
     exact .inl ⟨rfl, _, rfl⟩
   ·rw [List.getElem?_set_ne e] at hj
    exact h j s hj
  ·exact h j s hj
theorem fN.newObj {g : Gh} {w : World} {H : List ar} (hH : RH g w H) {T : TypeId} {v : Value} {y : D} (h : Rd g w v y) (l : List (Nat × Nat × Bool)) :
  RO (g.new w.heap.size H.length) (w.alloc (.cells v.cells T)) H.length (.cells (fI l (y.cells.map .d))) := by
 obtain ⟨c1, c2⟩ := h.cells
 refine ⟨w.heap.size, v.cells, T, ml hH _, xE _ _, heap_alloc _ _, by rw [mi]; simpa using c1, mj l _ fun j s hj => ?_⟩
 simp only [List.getElem?_map, Option.map_eq_some_iff] at hj
 obtain ⟨x, hx, rfl⟩ := hj
 obtain ⟨u, u1, u2, u3⟩ := c2 j x hx
 exact ⟨u, u1, Rd.aG az.new ck.new u2, u3⟩
theorem OpS.AJ {o : Oper} {T : TypeId} {z : D} (l : List (Nat × Nat × Bool)) (hop : o.op = .alloc T) (hz : nv P T = some z) :
  OpS P false st o ((st.hp (st.H ++ [.cells (fI l (z.cells.map .d))])).put o.dst (.d (.ptr st.H.length 0))) := by
 refine OpS.value fun a w g hr => ?_
 obtain ⟨v, e1, e2⟩ := iz (P := P) (g := g) (w := w) hz
 have hn := fN.newObj (T := T) hr.hp e1 l
 refine ⟨.pointer (some ⟨w.heap.size, 0, none⟩), w.alloc (.cells v.cells T), _, ?_, Rel.b9 (hr.newObj hn) o.dst (.ptr (ml hr.hp _)), Fr.new⟩
 unfold execOp; rw [hop]
 simp only [Instr.alloc, Sem.run_bind, e2, Result.andThen_ok, newVar, newRow, run_newObj, Sem.run_pure]
 rfl
theorem OpS.CG {o : Oper} {T : TypeId} {x : Operand} {y : D} (l : List (Nat × Nat × Bool)) (hop : o.op = .box T x) (hy : bK st x = some y) :
  OpS P false st o ((st.hp (st.H ++ [.cells (fI l (y.cells.map .d))])).put o.dst (.d (.ptr st.H.length 0))) := by
 refine OpS.value fun a w g hr => ?_
 have e1 := bw hr hy
 have hn := fN.newObj (T := T) hr.hp e1 l
 refine ⟨.pointer (some ⟨w.heap.size, 0, none⟩), w.alloc (.cells (a.eval x).cells T), _, ?_, Rel.b9 (hr.newObj hn) o.dst (.ptr (ml hr.hp _)), Fr.new⟩
 unfold execOp; rw [hop]
 simp only [Instr.box, Sem.run_bind, newVar, newRow, run_newObj, Result.andThen_ok, Sem.run_pure]
 rfl
theorem OpS.xG {o : Oper} {T : TypeId} (hop : o.op = .makeMap T none) : OpS P false st o ((st.hp (st.H ++ [.map []])).put o.dst (.d (.map st.H.length))) := by
 refine OpS.value fun a w g hr => ?_
 have hn : RO (g.new w.heap.size st.H.length) (w.alloc (.map #[] 0)) st.H.length (.map []) :=
  ⟨w.heap.size, #[], 0, ml hr.hp _, xE _ _, heap_alloc _ _, rfl, ⟨by simp, by simp⟩, by simp⟩
 refine ⟨.map (some w.heap.size), w.alloc (.map #[] 0), _, ?_, Rel.b9 (hr.newObj hn) o.dst (.map (ml hr.hp _)), Fr.new⟩
 unfold execOp; rw [hop]
 simp only [Instr.makeMap, Option.map_none, Sem.run_bind, run_newObj, Result.andThen_ok, Sem.run_pure]
 rfl
theorem my {K V : Type} [BEq K] (k : Kc K) (v : Cd V) (x : K) : ∀ (es : List (K × V)) (i : Nat), (ij (k.c.enc x) (es.map (fO k v)) i).map (·.2) = (es.lookup x).map v.enc
 | [], _ => rfl
 | (a, b) :: es, i => by
  simp only [List.map_cons, fO, ij, k.same, List.lookup]
  cases x == a with
  | true => rfl
  | false => exact my k v x es (i + 1)
theorem vK {K : TypeId} {kt : kH} (h : iP P K = some kt) : P.underlying K = some kt.desc := by
 unfold iP at h
 split at h
 ·rename_i k hu; cases h; exact hu
 ·rename_i hu; cases h; exact hu
 ·cases h
theorem run_checkKey {K : TypeId} {kt : kH} (h : iP P K = some kt) {b : Bool} {v : Value} (w : World) : (Instr.checkKey b 10000 K v).run P w = .ok () w := by
 have hu := vK h
 show (Instr.checkKey b (9999 + 1) K v).run P w = _
 unfold Instr.checkKey
 simp only [Sem.run_bind, run_underlying hu, Result.andThen_ok]
 cases kt <;> (simp only [kH.desc]; cases v <;> rfl)
theorem run_findKey {K : TypeId} {kt : kH} (h : iP P K = some kt) {u : Value} {ms : List MapEntry} {r : Option (Nat × Value)} (hf : Instr.findNow kt.desc u ms 0 = some r) (w : World) : (Instr.findKey K u ms).run P w = .ok r w := by
 simp only [Instr.findKey, Sem.run_bind, run_underlying (vK h), Result.andThen_ok, hf, Sem.run_pure]
theorem jq {r : Nat} {es : Array MapEntry} {clock : Nat} {w : World} (h : w.heap[r]? = some (.map es clock)) : (getObj r).run P w = .ok (.map es clock) w := by simp [getObj, Sem.run, h]
def gK (w : World) (r : Nat) (o : Obj) : World := { w with heap := w.heap.setIfInBounds r o }
theorem o5 {r : Nat} {es : Array MapEntry} {clock : Nat} {o' : Obj} {w : World} (h : w.heap[r]? = some (.map es clock)) : (setObj r o').run P w = .ok () (gK w r o') := by simp [setObj, Sem.run, h, gK]
theorem nA {w : World} {r : Nat} {o o' : Obj} (h : w.heap[r]? = some o) : (gK w r o').heap[r]? = some o' := by
 have := gg h
 simp [gK, this]
theorem jo {w : World} {r k : Nat} {o' : Obj} (h : k ≠ r) : (gK w r o').heap[k]? = w.heap[k]? := by simp [gK, Array.getElem?_setIfInBounds_ne (Ne.symm h)]
theorem nz {w : World} {r : Nat} {o' : Obj} : (gK w r o').heap.size = w.heap.size := by simp [gK]
theorem kf {a : Act} {w : World} {g : Gh} (hr : Rel st a w g) {x : Operand} {m : Option Nat} (h : bK st x = some (cM.enc m)) :
  match m with
  | none => a.eval x = .map none
  | some i => ∃ k, g.ρ[i]? = some k ∧ a.eval x = .map (some k) := by
 have := bw hr h
 cases m with
 | none => simp only [cM] at this; generalize a.eval x = v at this; cases this; rfl
 | some i => simp only [cM] at this; generalize a.eval x = v at this; cases this with | map h => exact ⟨_, h, rfl⟩
def sY {V : Type} (v : Cd V) (ok : Bool) (z : V) (q : Option V) : SV := if ok then .tup [.d (v.enc (q.getD z)), .d (.bool q.isSome)] else .d (v.enc (q.getD z))
theorem o6 {T KT ET : TypeId} {kt : kH} {xv iv vz : Value} {ms : Array MapEntry} {r : Option (Nat × Value)} (ok : Bool) (hT : P.underlying T = some (.map KT ET)) (hk : iP P KT = some kt) (hf : Instr.findNow kt.desc iv ms.toList 0 = some r)
  (rz : ∀ w, (zeroValue ET).run P w = .ok vz w) {w : World} (hx : (xv = .map none ∧ ms = #[]) ∨ ∃ k clock, xv = .map (some k) ∧ w.heap[k]? = some (.map ms clock)) :
  (Instr.lookup T xv iv ok).run P w = .ok (if ok then .tuple #[(r.map (·.2)).getD vz, .bool r.isSome] else (r.map (·.2)).getD vz) w := by
 rcases hx with ⟨rfl, rfl⟩ | ⟨k, clock, rfl, hb⟩
 ·simp only [Instr.lookup, Sem.run_bind, run_underlying hT, Result.andThen_ok, Sem.run_pure, run_checkKey hk, run_findKey hk hf]
  cases r with
  | none => simp only [Sem.run_bind, rz, Result.andThen_ok, Sem.run_pure]; cases ok <;> rfl
  | some p => simp only [Sem.run_pure, Result.andThen_ok]; cases ok <;> rfl
 ·simp only [Instr.lookup, Sem.run_bind, run_underlying hT, Result.andThen_ok, Sem.run_pure, jq hb, run_checkKey hk, run_findKey hk hf]
  cases r with
  | none => simp only [Sem.run_bind, rz, Result.andThen_ok, Sem.run_pure]; cases ok <;> rfl
  | some p => simp only [Sem.run_pure, Result.andThen_ok]; cases ok <;> rfl
theorem qN {K V : Type} [BEq K] {k : Kc K} {v : Cd V} {a : Act} {w : World} {g : Gh} (hr : Rel st a w g) {i : Nat} {es : List (K × V)} {key : K} {iv : Value} (hm : pL k v st.H (some i) = some es) (hi : Rd g w iv (k.c.enc key)) :
  ∃ kb ms clock, g.ρ[i]? = some kb ∧ g.ow kb = .obj i ∧ w.heap[kb]? = some (.map ms clock) ∧ ms.size = es.length ∧ u5 ms clock ∧ (∀ (j : Nat) (p : K × V), es[j]? = some p → ∃ m, ms[j]? = some m ∧ Rd g w m.key (k.c.enc p.1) ∧ Rd g w m.val (v.enc p.2)) ∧
   ∃ r, Instr.findNow k.kt.desc iv ms.toList 0 = some r ∧ ((es.lookup key = none ∧ r = none ∧ ij (k.c.enc key) (es.map (fO k v)) 0 = none) ∨ ∃ y u j, es.lookup key = some y ∧ r = some (j, u) ∧ Rd g w u (v.enc y) ∧ ij (k.c.enc key) (es.map (fO k v)) 0 = some (j, v.enc y)) := by
 have h1 := oJ.1 hm
 obtain ⟨kb, ms, clock, f1, f2, f3, f4, f5, f6⟩ := hr.hp.2 i _ h1
 obtain ⟨r, g1, g2⟩ := nO (k.isK key) hi k.kt.desc rfl ms.toList (es.map (fO k v)) 0 (by simpa using f4) (fun j p hj => by simpa using f6 j p hj) (fun p hp => by
  obtain ⟨e, -, rfl⟩ := List.mem_map.1 hp; exact k.isK _)
 refine ⟨kb, ms, clock, f1, f2, f3, by simpa using f4, f5, fun j p hj => ?_, r, g1, ?_⟩
 ·exact f6 j (fO k v p) (by simp [hj])
 ·have hl := my k v key es 0
  rcases g2 with ⟨g3, g4⟩ | ⟨j, y, u, g3, g4, g5⟩
  ·rw [g3] at hl
   refine .inl ⟨?_, g4, g3⟩
   cases hh : es.lookup key with
   | none => rfl
   | some y => rw [hh] at hl; cases hl
  ·rw [g3] at hl
   simp only [Option.map_some] at hl
   cases hh : es.lookup key with
   | none => rw [hh] at hl; cases hl
   | some y' =>
    rw [hh] at hl
    simp only [Option.map_some, Option.some.injEq] at hl
    subst hl
    exact .inr ⟨y', u, j, rfl, g4, g5, g3⟩
theorem bQ.lookup {K V : Type} [BEq K] {k : Kc K} {v : Cd V} {o : Oper} {T KT ET : TypeId} {x ix : Operand} {ok : Bool} {m : Option Nat} {key : K} {q : Option V} {z : V} (hop : o.op = .lookup T x ix ok) (hT : P.underlying T = some (.map KT ET))
  (hk : iP P KT = some k.kt) (hx : bK st x = some (cM.enc m)) (hi : bK st ix = some (k.c.enc key)) (hz : nv P ET = some (v.enc z)) (hq : pM k v st.H m key = some q) : bQ P st o (sY v ok z q) := by
 intro a w g hr
 have hrk := bw hr hi
 obtain ⟨vz, ez, rz⟩ := iz (P := P) (g := g) (w := w) hz
 have hm := kf hr hx
 have fin : ∀ (r : Option (Nat × Value)), (q = none ∧ r = none ∨ ∃ y u j, q = some y ∧ r = some (j, u) ∧ Rd g w u (v.enc y)) → BV g w st a (if ok then .tuple #[(r.map (·.2)).getD vz, .bool r.isSome] else (r.map (·.2)).getD vz) (sY v ok z q) := by
  intro r h
  refine BV.fQ ?_
  have h1 : Rd g w ((r.map (·.2)).getD vz) (v.enc (q.getD z)) := by
   rcases h with ⟨rfl, rfl⟩ | ⟨y, u, j, rfl, rfl, hu⟩
   ·exact ez
   ·exact hu
  have h2 : r.isSome = q.isSome := by rcases h with ⟨rfl, rfl⟩ | ⟨y, u, j, rfl, rfl, hu⟩ <;> rfl
  unfold sY
  cases ok
  ·exact h1
  ·simp only [if_true]
   refine ⟨#[(r.map (·.2)).getD vz, .bool r.isSome], rfl, rfl, fun j s hj => ?_⟩
   match j, hj with
   | 0, hj => simp at hj; exact ⟨_, _, rfl, hj.symm, h1⟩
   | 1, hj => simp at hj; rw [h2]; exact ⟨.bool q.isSome, _, rfl, hj.symm, .bool⟩
   | j + 2, hj => simp at hj
 have run : ∀ {r : Option (Nat × Value)} {w' : World}, (Instr.lookup T (a.eval x) (a.eval ix) ok).run P w' = .ok (if ok then .tuple #[(r.map (·.2)).getD vz, .bool r.isSome] else (r.map (·.2)).getD vz) w' →
   (execOp a.eval o).run P w' = .ok (.value (if ok then .tuple #[(r.map (·.2)).getD vz, .bool r.isSome] else (r.map (·.2)).getD vz)) w' := fun h => by
  unfold execOp; rw [hop]
  simp only [Sem.run_bind, h, Result.andThen_ok, Sem.run_pure]
 cases m with
 | none =>
  simp only [pM, pL, Option.map_some, List.lookup_nil, Option.some.injEq] at hq
  subst hq
  exact ⟨_, fin none (.inl ⟨rfl, rfl⟩), fun w' hup => run (r := none) (o6 ok hT hk (ms := #[]) rfl rz (.inl ⟨hm, rfl⟩))⟩
 | some i =>
  simp only [pM, Option.map_eq_some_iff] at hq
  obtain ⟨es, h1, h2⟩ := hq
  obtain ⟨kb, ms, clock, f1, f2, f3, f4, f5, f6, r, g1, g2⟩ := qN hr h1 hrk
  obtain ⟨kb', e1, e2⟩ := hm
  rw [f1] at e1; cases e1
  refine ⟨_, fin r ?_, fun w' hup => run (o6 ok hT hk g1 rz (.inr ⟨kb, clock, e2, hup _ _ f3⟩))⟩
  rcases g2 with ⟨g3, g4, -⟩ | ⟨y, u, j, g3, g4, g5, -⟩
  ·exact .inl ⟨by rw [← h2]; exact g3, g4⟩
  ·exact .inr ⟨y, u, j, by rw [← h2]; exact g3, g4, g5⟩
end
end Go.Sh
namespace Go.Sh
theorem ky (x : D) : ∀ (es : List (D × D)) (i : Nat), ij x es (i + 1) = (ij x es i).map fun p => (p.1 + 1, p.2)
 | [], _ => rfl
 | (k, v) :: es, i => by
  simp only [ij]
  split
  ·rfl
  ·exact ky x es (i + 1)
section
variable {K V : Type} [BEq K]
theorem nd (k : Kc K) (v : Cd V) (x : K) (y : V) : ∀ (es : List (K × V)), ij (k.c.enc x) (es.map (fO k v)) 0 = none → (qk x y es).map (fO k v) = es.map (fO k v) ++ [fO k v (x, y)]
 | [], _ => rfl
 | (a, b) :: es, h => by
  simp only [List.map_cons, fO, ij, k.same] at h
  simp only [qk]
  cases hb : x == a with
  | true => rw [hb] at h; simp at h
  | false =>
   rw [hb, ky] at h
   simp only [Bool.false_eq_true, if_false, Option.map_eq_none_iff] at h ⊢
   rw [List.map_cons, List.map_cons, nd k v x y es h, List.cons_append]
theorem qO (k : Kc K) (v : Cd V) (x : K) (y : V) : ∀ (es : List (K × V)) (j : Nat) (u : D), ij (k.c.enc x) (es.map (fO k v)) 0 = some (j, u) → j < es.length ∧ (∃ p, es[j]? = some p ∧ (x == p.1) = true) ∧ (qk x y es).map (fO k v) = (es.map (fO k v)).set j (fO k v (x, y))
 | [], _, _, h => by cases h
 | (a, b) :: es, j, u, h => by
  simp only [List.map_cons, fO, ij, k.same] at h
  simp only [qk]
  cases hb : x == a with
  | true =>
   rw [hb] at h
   simp only [if_true, Option.some.injEq, Prod.mk.injEq] at h
   obtain ⟨rfl, -⟩ := h
   exact ⟨by simp, ⟨_, rfl, hb⟩, rfl⟩
  | false =>
   rw [hb, ky] at h
   simp only [Bool.false_eq_true, if_false, Option.map_eq_some_iff, Prod.mk.injEq] at h
   obtain ⟨⟨j', u'⟩, h1, rfl, -⟩ := h
   obtain ⟨i1, ⟨p, i2, i3⟩, i4⟩ := qO k v x y es j' u' h1
   refine ⟨by simpa using i1, ⟨p, by simpa using i2, i3⟩, ?_⟩
   simp only [Bool.false_eq_true, if_false, List.map_cons, List.set_cons_succ, i4]
end
theorem rE {g : Gh} {w : World} {T : kH} {x y : D} {u v : Value} (hx : isKey T x = true) (hy : isKey T y = true) (hu : Rd g w u x) (hv : Rd g w v y) (h : l5 x y = true) : Instr.sameBits 10000 v u = true := by
 cases T with
 | int k =>
  cases x <;> simp only [isKey, Bool.false_eq_true] at hx
  cases y <;> simp only [isKey, Bool.false_eq_true] at hy
  cases hu; cases hv
  simp only [beq_iff_eq] at hx hy
  simp only [l5, beq_iff_eq] at h
  subst hx; subst hy; subst h
  show Instr.sameBits (9999 + 1) _ _ = true
  simp [Instr.sameBits]
 | str =>
  cases x <;> simp only [isKey, Bool.false_eq_true] at hx
  cases y <;> simp only [isKey, Bool.false_eq_true] at hy
  cases hu; cases hv
  simp only [l5, beq_iff_eq] at h
  subst h
  show Instr.sameBits (9999 + 1) _ _ = true
  simp [Instr.sameBits, lh]
section
variable {P : Program} {st : St} {K V : Type} [BEq K]
theorem zc {k : Kc K} {v : Cd V} {a : Act} {w : World} {g : Gh} (hr : Rel st a w g) {i : Nat} {es : List (K × V)} {key : K} {y : V} {iv yv : Value} {T KT ET : TypeId} (hT : P.underlying T = some (.map KT ET)) (hk : iP P KT = some k.kt)
  (hm : pL k v st.H (some i) = some es) (hi : Rd g w iv (k.c.enc key)) (hy : Rd g w yv (v.enc y)) :
  ∃ kb w', g.ρ[i]? = some kb ∧ g.ow kb = .obj i ∧ (Instr.mapUpdate T (.map (some kb)) iv yv).run P w = .ok () w' ∧ w'.heap.size = w.heap.size ∧ cq w w' ∧ (∀ k', k' ≠ kb → w'.heap[k']? = w.heap[k']?) ∧ RO g w' i (.map ((qk key y es).map (fO k v))) := by
 obtain ⟨kb, ms, clock, f1, f2, f3, f4, f5, f6, r, g1, g2⟩ := qN hr hm hi
 have hkp : ∀ (ob : Obj) (o' : Own), o' ≠ .obj i → az o' g w g (gK w kb ob) := fun ob o' ho => az.block f2 ho fun k' h => jo h
 have up : ∀ (ob : Obj) {u : Value} {x : D}, Rd g w u x → Rd g (gK w kb ob) u x := fun ob _ _ h => Rd.aG (hkp ob _ (by simp)) (fun _ _ h => h) h
 rcases g2 with ⟨g3, rfl, g4⟩ | ⟨y0, u, j, g3, rfl, g5, g4⟩
 ·refine ⟨kb, gK w kb (.map (ms.push { key := iv, val := yv, born := clock }) (clock + 1)), f1, f2, ?_, nz, ⟨rfl, rfl⟩, fun k' h => jo h, kb, _, _, f1, f2, nA f3, ?_, ?_, fun j p hj => ?_⟩
  ·simp only [Instr.mapUpdate, Sem.run_bind, run_underlying hT, Result.andThen_ok, jq f3, run_checkKey hk, run_findKey hk g1, o5 f3]
  ·rw [nd k v key y es g4]; simp [f4]
  ·obtain ⟨b1, b2⟩ := f5
   refine ⟨fun m hm => ?_, ?_⟩
   ·simp only [Array.toList_push, List.mem_append, List.mem_singleton] at hm
    rcases hm with h | rfl
    ·have := b1 m h; omega
    ·simp
   ·simp only [Array.toList_push, List.map_append, List.map_cons, List.map_nil]
    refine List.nodup_append.2 ⟨b2, by simp, fun x hx y hy => ?_⟩
    simp only [List.mem_singleton] at hy
    subst hy
    obtain ⟨m, hm, rfl⟩ := List.mem_map.1 hx
    have := b1 m hm; omega
  ·rw [nd k v key y es g4] at hj
   by_cases hlt : j < es.length
   ·rw [List.getElem?_append_left (by simpa using hlt), List.getElem?_map] at hj
    simp only [Option.map_eq_some_iff] at hj
    obtain ⟨q, hq, rfl⟩ := hj
    obtain ⟨m, m1, m2, m3⟩ := f6 j q hq
    exact ⟨m, by rw [Array.getElem?_push_lt (by omega), ← Array.getElem?_eq_getElem]; exact m1, up _ m2, up _ m3⟩
   ·have : j = es.length := by have := aD hj; simp at this; omega
    subst this
    rw [List.getElem?_append_right (by simp)] at hj
    simp only [List.length_map, Nat.sub_self, List.getElem?_cons_zero, Option.some.injEq] at hj
    subst hj
    exact ⟨{ key := iv, val := yv, born := clock }, by rw [← f4]; simp, up _ hi, up _ hy⟩
 ·obtain ⟨i1, ⟨p, i2, i3⟩, i4⟩ := qO k v key y es j _ g4
  have hms : j < ms.size := by omega
  obtain ⟨m, m1, m2, m3⟩ := f6 j p i2
  refine ⟨kb, gK w kb (.map (ms.modify j fun e => { e with key := iv, val := yv }) clock), f1, f2, ?_, nz, ⟨rfl, rfl⟩, fun k' h => jo h, kb, _, _, f1, f2, nA f3, ?_, ?_, fun j' p' hj => ?_⟩
  ·have hsb : Instr.sameBits 10000 m.key iv = true := rE (k.isK _) (k.isK _) hi m2 (by rw [k.same]; exact i3)
   simp only [Instr.mapUpdate, Sem.run_bind, run_underlying hT, Result.andThen_ok, jq f3, run_checkKey hk, run_findKey hk g1, m1, Option.map_some, Option.getD_some, Instr.keyThatStays, hsb, if_true, Sem.run_pure, o5 f3]
  ·rw [i4]; simp [f4]
  ·obtain ⟨b1, b2⟩ := f5
   have hborn : (ms.modify j fun e => { e with key := iv, val := yv }).toList.map (·.born) = ms.toList.map (·.born) := by
    apply List.ext_getElem?
    intro n
    simp only [Array.toList_modify, List.getElem?_map, List.getElem?_modify]
    by_cases e : j = n
    ·subst e; simp only [if_true]; cases ms.toList[j]? <;> rfl
    ·simp [e]
   refine ⟨fun m hm => ?_, by rw [hborn]; exact b2⟩
   have : m.born ∈ ms.toList.map (·.born) := by rw [← hborn]; exact List.mem_map_of_mem hm
   obtain ⟨m', hm', e⟩ := List.mem_map.1 this
   rw [← e]; exact b1 m' hm'
  ·rw [i4] at hj
   by_cases e : j = j'
   ·subst e
    rw [List.getElem?_set_self (by simpa using i1)] at hj
    cases hj
    refine ⟨{ m with key := iv, val := yv }, ?_, up _ hi, up _ hy⟩
    simp [Array.getElem?_modify, m1]
   ·rw [List.getElem?_set_ne e, List.getElem?_map] at hj
    simp only [Option.map_eq_some_iff] at hj
    obtain ⟨q, hq, rfl⟩ := hj
    obtain ⟨m, m1, m2, m3⟩ := f6 j' q hq
    exact ⟨m, by simp [Array.getElem?_modify, e, m1], up _ m2, up _ m3⟩
theorem OpS.mapUpdate {k : Kc K} {v : Cd V} {o : Oper} {T KT ET : TypeId} {x ix yx : Operand} {m : Option Nat} {key : K} {y : V} {H' : List ar} (hop : o.op = .mapUpdate T x ix yx ∨ o.op = .insert T x ix yx) (hd : o.dst = none) (hT : P.underlying T = some (.map KT ET)) (hk : iP P KT = some k.kt)
  (hx : bK st x = some (cM.enc m)) (hi : bK st ix = some (k.c.enc key)) (hy : bK st yx = some (v.enc y)) (hH : pK k v st.H m key y = some H') : OpS P false st o (st.hp H') := by
 refine OpS.skip fun a w g hr => ?_
 simp only [pK, Option.bind_eq_some_iff, Option.map_eq_some_iff] at hH
 obtain ⟨i, rfl, es, hm, rfl⟩ := hH
 obtain ⟨kb', e1, e2⟩ := kf hr hx
 obtain ⟨kb, w', f1, f2, f3, f4, fos, f5, f6⟩ := zc hr hT hk hm (bw hr hi) (bw hr hy)
 rw [f1] at e1; cases e1
 refine ⟨w', g, ?_, ?_, Fr.setObj f2 f4 f5 fos⟩
 ·unfold execOp
  rcases hop with hop | hop <;> (rw [hop]; simp only [e2, Sem.run_bind, f3, Result.andThen_ok, Sem.run_pure])
 ·rw [hd]
  exact hr.setObj (aD (oJ.1 hm)) f1 f2 f5 f6
end
end Go.Sh
namespace Go.Sh
section
variable {P : Program} {st : St} {K V : Type} [BEq K]
end
end Go.Sh
namespace Go.Sh
mutual
def cC : D → Bool
 | .ptr _ _ | .map _ => false
 | .list _ xs => cD xs
 | .agg cs => cD cs
 | .iface _ x => cC x
 | .fn _ fs cs => cD fs && cD cs
 | .aR cs => cD cs
 | _ => true
def cD : List D → Bool
 | [] => true
 | x :: xs => cC x && cD xs
end
theorem dU : ∀ {xs : List D}, cD xs = true → ∀ (j : Nat) (y : D), xs[j]? = some y → cC y = true
 | [], _, j, y, h => by simp at h
 | x :: xs, hn, j, y, h => by
  simp only [cD, Bool.and_eq_true] at hn
  cases j with
  | zero => simp at h; subst h; exact hn.1
  | succ j => exact dU hn.2 j y (by simpa using h)
theorem dp {α : Type} {f : α → D} (h : ∀ x, cC (f x) = true) : ∀ l : List α, cD (l.map f) = true
 | [] => rfl
 | x :: l => by simp [cD, h x, dp h l]
theorem mh {x : D} (h : cC x = true) : ∀ (j : Nat) (y : D), x.cells[j]? = some y → cC y = true := by
 intro j y hy
 cases x with
 | agg cs => simp only [cC] at h; exact dU h j y hy
 | _ =>
  cases j with
  | zero => simp [D.cells] at hy; subst hy; exact h
  | succ j => simp [D.cells] at hy
def cU : SV → Bool
 | .d x => cC x
 | .own _ xs => cD xs
 | .tup vs => vs.all fun | .d x => cC x | .own _ xs => cD xs | .undef => true | _ => false
 | .undef => true
 | _ => false
theorem Rd.pk {g g' : Gh} {w w' : World} (hk : az .free g w g' w') {v : Value} {x : D} (h : Rd g w v x) (hn : cC x = true) : Rd g' w' v x := by
 induction h with
 | bool => exact .bool
 | int => exact .int
 | str => exact .str
 | bW => exact .bW
 | iD => exact .iD
 | list us hk' hb hl hp hn' hc _ ih =>
  refine .list us (hk _ _ hk' hb).1 (hk _ _ hk' hb).2 hl hp hn' hc fun i x hx j y hy => ih i x hx j y hy ?_
  simp only [cC] at hn
  exact mh (dU hn i x hx) j y hy
 | agg hl us hc _ ih => exact .agg hl us hc fun j y hy => ih j y hy (dU (by simpa [cC] using hn) j y hy)
 | nilIface => exact .nilIface
 | iface _ ih => exact .iface (ih (by simpa [cC] using hn))
 | fn hl1 hl2 us1 us2 hc1 _ hc2 _ ih1 ih2 =>
  simp only [cC, Bool.and_eq_true] at hn
  exact .fn hl1 hl2 us1 us2 hc1 (fun j y hy => ih1 j y hy (dU hn.1 j y hy)) hc2 (fun j y hy => ih2 j y hy (dU hn.2 j y hy))
 | eZ => exact .eZ
 | aL => exact .aL
 | ptr h => simp [cC] at hn
 | aR us hk' hb hc _ ih => exact .aR us (hk _ _ hk' hb).1 (hk _ _ hk' hb).2 hc fun j y hy => ih j y hy (dU (by simpa [cC] using hn) j y hy)
 | et => exact .et
 | map h => simp [cC] at hn
 | raw h => exact .raw h
theorem RC.pk {g g' : Gh} {w w' : World} {o : Loc} {v : Value} {s : SV} (hk : az .free g w g' w') (h1 : az (.lst o) g w g' w') (h : RC g w o v s) (hn : cU s = true) : RC g' w' o v s := by
 cases s with
 | d x => exact Rd.pk hk h hn
 | own n xs =>
  rcases h with h | ⟨k, off, cap, c, T, us, hv, ho, hb, hl, hz, hw, hc, hr⟩
  ·exact .inl h
  ·obtain ⟨ho', hb'⟩ := h1 k _ ho hb
   refine .inr ⟨k, off, cap, c, T, us, hv, ho', hb', hl, hz, hw, hc, fun i x hx j y hy => Rd.pk hk (hr i x hx j y hy) ?_⟩
   simp only [cU] at hn
   exact mh (dU hn i x hx) j y hy
 | undef => trivial
 | _ => exact h.elim
def iR : Own → Own
 | .free => .free
 | .lst (.slot j) => .lst (.slot j)
 | _ => .out
def Gh.lL (g : Gh) : Gh := ⟨fun k => iR (g.ow k), []⟩
def ji (n : Nat) (ow ow' : Nat → Own) (k : Nat) : Own :=
 if k < n then (match ow k with | .free => .free | .lst (.slot j) => (match ow' k with | .obj _ => .out | .lst (.ai _ _) => .out | o => o) | o => o)
 else match ow' k with | .obj _ => .out | .lst (.ai _ _) => .out | o => o
def LC (P : Program) (f : FuncId) (args : List SV) (r : SV) : Prop :=
 ∀ (w : World) (g : Gh) (vs : Array Value), fj g w vs args → RH g w [] → Calls P f vs w fun e w' => ∃ v g', e = .returned v ∧ nu g' w' v r ∧ Fr false g w g' w'
theorem PC.xA {P : Program} {f : FuncId} {args : List SV} {r : SV} (ha : args.all cU = true) (hr : cU r = true) (h : LC P f args r) : PC P f args r := by
 intro H w g vs hA hH
 have hkeep : az .free g w g.lL w := fun k o h1 h2 => ⟨by simp [Gh.lL, h1, iR], h2⟩
 have hA' : fj g.lL w vs args := by
  refine ⟨hA.1, fun j s hj => ?_⟩
  obtain ⟨u, u1, u2⟩ := hA.2 j s hj
  refine ⟨u, u1, u2.pk hkeep (fun k o h1 h2 => ⟨by simp [Gh.lL, h1, iR], h2⟩) ?_⟩
  rw [List.all_eq_true] at ha
  exact ha s (List.mem_iff_getElem?.2 ⟨j, hj⟩)
 refine (h w g.lL vs hA' ⟨rfl, by simp⟩).mono fun e w' hh => ?_
 obtain ⟨v, g', rfl, hres, hf⟩ := hh
 -- the owners behind the call
 let g2 : Gh := ⟨ji w.heap.size g.ow g'.ow, g.ρ⟩
 -- old blocks that were hidden
 have hid : ∀ (k : Nat) (o : Obj), iR (g.ow k) = .out → w.heap[k]? = some o → g2.ow k = g.ow k ∧ w'.heap[k]? = some o := by
  intro k o h1 h2
  obtain ⟨-, h4⟩ := hf.out k o (by simpa [Gh.lL] using h1) h2
  refine ⟨?_, h4⟩
  have hlt := gg h2
  show ji w.heap.size g.ow g'.ow k = _
  unfold ji
  rw [if_pos hlt]
  split
  ·rename_i e; exact e.symm
  ·rename_i j e; rw [e] at h1; cases h1
  ·rfl
 have hfree : az .free g w g2 w' := by
  intro k o h1 h2
  obtain ⟨-, h4⟩ := hf.free k o (by simp [Gh.lL, h1, iR]) h2
  refine ⟨?_, h4⟩
  show ji w.heap.size g.ow g'.ow k = _
  unfold ji
  rw [if_pos (gg h2), h1]
 have hback : az .free g' w' g2 w' := by
  intro k o h1 h2
  refine ⟨?_, h2⟩
  show ji w.heap.size g.ow g'.ow k = _
  unfold ji
  split
  ·rename_i hlt
   cases hk : g.ow k with
   | free => rfl
   | lst l =>
    cases l with
    | slot j => simp only [h1]
    | _ =>
     exfalso
     have h2' : ∃ o', w.heap[k]? = some o' := ⟨w.heap[k], by simp [hlt]⟩
     obtain ⟨o', h3⟩ := h2'
     have := (hf.out k o' (by simp [Gh.lL, hk, iR]) h3).1
     rw [h1] at this; cases this
   | _ =>
    exfalso
    have h2' : ∃ o', w.heap[k]? = some o' := ⟨w.heap[k], by simp [hlt]⟩
    obtain ⟨o', h3⟩ := h2'
    have := (hf.out k o' (by simp [Gh.lL, hk, iR]) h3).1
    rw [h1] at this; cases this
  ·rw [h1]
 have hbackL : ∀ l : Loc, (∀ i j, l ≠ .ai i j) → az (.lst l) g' w' g2 w' := by
  intro l hl k o h1 h2
  refine ⟨?_, h2⟩
  show ji w.heap.size g.ow g'.ow k = _
  unfold ji
  have hno : (match g'.ow k with | .obj _ => Own.out | .lst (.ai _ _) => .out | o => o) = .lst l := by
   rw [h1]
   cases l with
   | ai i j => exact absurd rfl (hl i j)
   | _ => rfl
  split
  ·rename_i hlt
   have h2' : ∃ o', w.heap[k]? = some o' := ⟨w.heap[k], by simp [hlt]⟩
   obtain ⟨o', h3⟩ := h2'
   have hcontra : iR (g.ow k) = .out ∨ iR (g.ow k) = .free → False := by
    rintro (e | e)
    ·have := (hf.out k o' (by simpa [Gh.lL] using e) h3).1; rw [h1] at this; cases this
    ·have := (hf.free k o' (by simpa [Gh.lL] using e) h3).1; rw [h1] at this; cases this
   cases hk : g.ow k with
   | free => exact (hcontra (.inr (by rw [hk]; rfl))).elim
   | lst l' =>
    cases l' with
    | slot j => exact hno
    | _ => exact (hcontra (.inl (by rw [hk]; rfl))).elim
   | _ => exact (hcontra (.inl (by rw [hk]; rfl))).elim
  ·exact hno
 refine ⟨v, g2, rfl, ?_, ⟨hH.1, fun i o hi => ?_⟩, hf.size, hfree, ?_, fun _ _ h => h, ?_, ?_, fun _ => rfl, hf.os⟩
 ·-- the result
  cases r with
  | d x => exact Rd.pk hback hres hr
  | own n xs => exact RC.pk (s := .own n xs) hback (hbackL _ (by simp)) hres hr
  | tup vs' =>
   obtain ⟨us, e1, e2, e3⟩ := hres
   refine ⟨us, e1, e2, fun j s hj => ?_⟩
   obtain ⟨u, u1, u2⟩ := e3 j s hj
   refine ⟨u, u1, u2.pk hback (hbackL _ (by simp)) ?_⟩
   simp only [cU, List.all_eq_true] at hr
   have := hr s (List.mem_iff_getElem?.2 ⟨j, hj⟩)
   cases s <;> simpa [cU] using this
  | undef => trivial
  | _ => exact hres.elim
 ·-- the objects
  have hhid : ∀ o', iR o' = .out → az o' g w g2 w' := fun o' ho' k ob h1 h2 => by
   obtain ⟨a, b⟩ := hid k ob (by rw [h1]; exact ho') h2
   exact ⟨a.trans h1, b⟩
  exact (hH.2 i o hi).jD hfree (hhid _ rfl) (fun j => hhid _ rfl) (fun _ _ h => h)
 ·intro k o h1 h2
  obtain ⟨a, b⟩ := hid k o (by rw [h1]; rfl) h2
  exact ⟨a.trans h1, b⟩
 ·intro _ i k o h1 h2
  obtain ⟨a, b⟩ := hid k o (by rw [h1]; rfl) h2
  exact ⟨a.trans h1, b⟩
 ·intro _ i j k o h1 h2
  obtain ⟨a, b⟩ := hid k o (by rw [h1]; rfl) h2
  exact ⟨a.trans h1, b⟩
end Go.Sh
namespace Go.Sh
section
variable {P : Program} {st : St} {ops : Array Oper} {k m : Nat} {Q : St → Prop} (n : Nat) (H : List ar)
def Bx (ops : Array Oper) (k : Nat) (st : St) : Option (Option Tmp × D) :=
 match dT ops k st with
 | some o => match o.op with
  | .nilCheck (.tmp s) => match bK st (.tmp s) with
   | some d => some (o.dst, d)
   | none => none
  | _ => none
 | none => none
theorem BAt.oe {d : Option Tmp} {p : Option Nat} {i : Nat} (hp : p = some i) (h : Bx ops k st = some (d, cP.enc p)) : BAt P ops k st d (.d (.ptr i 0)) := by
 subst hp
 unfold Bx at h
 split at h
 ·rename_i o ho
  split at h
  ·rename_i s hop
   split at h
   ·rename_i d' hv
    simp only [Option.some.injEq, Prod.mk.injEq] at h
    obtain ⟨rfl, rfl⟩ := h
    obtain ⟨h1, h2⟩ := aW ho
    refine ⟨o, h1, h2, bQ.fH ?_, rfl, rfl⟩
    simp only [bK, val] at hv
    split at hv
    ·rename_i d hd
     cases hv
     simp [bop, hop, o9, hd, ux, lY, Ay, cP]
    ·cases hv
   ·cases h
  ·cases h
 ·cases h
def zX (P : Program) (ops : Array Oper) (k : Nat) (st : St) (cs : List SV) : Option (Option Tmp × Nat × Nat × Hp × SV) :=
 match dT ops k st with
 | some o => match o.op with
  | .load T x => match jJ st x, qL st x, kZ st x with
   | none, none, some (i, off) =>
    if (P.underlying T).isNone then none
    else if cy P T then (if 0 < P.cellsOf T ∧ P.cellsOf T ≤ cs.length then (match nq (cs.take (P.cellsOf T)) with | some ys => some (o.dst, i, off, st.H, .d (.agg ys)) | none => none) else none)
    else match cs with
     | .d x :: _ => some (o.dst, i, off, st.H, .d x)
     | .own n xs :: _ => some (o.dst, i, off, st.H, .bf (.ai i off) n xs)
     | _ => none
   | _, _, _ => none
  | _ => none
 | none => none
theorem BAt.ldH {α : Type} {c : Cc α} {H0 : Hp} {i off : Nat} {x : α} {d : Option Tmp} {s : SV} (hx : bg c H0 i off = some x) (h : zX P ops k st (c.enc x) = some (d, i, off, H0, s)) : BAt P ops k st d s := by
 obtain ⟨cs, r, e1, e2⟩ := zr hx
 unfold zX at h
 split at h
 ·rename_i o ho
  split at h
  ·rename_i T xo hop
   split at h
   ·rename_i i' off' h1 h2 h3
    obtain ⟨g1, g2⟩ := aW ho
    have key : ∀ s', jb P T (.ai i' off') (c.enc x ++ r) = some s' → i' = i → off' = off → st.H = H0 → fP o.dst s' = true → BAt P ops k st o.dst s' := by
     rintro s' hl rfl rfl rfl hlk
     refine ⟨o, g1, g2, bQ.fH ?_, hlk, rfl⟩
     simp only [bop, hop, kh, h1, h2, h3, e1, e2, hl]
    split at h
    ·cases h
    ·rename_i hu
     split at h
     ·rename_i ha
      split at h
      ·rename_i hn
       split at h
       ·rename_i ys hys
        simp only [Option.some.injEq, Prod.mk.injEq] at h
        obtain ⟨rfl, e3, e4, e5, rfl⟩ := h
        refine key _ ?_ e3 e4 e5 rfl
        unfold jb
        rw [if_neg hu, if_pos ha, if_pos ⟨hn.1, by rw [List.length_append]; omega⟩, List.take_append_of_le_length hn.2, hys]
        rfl
       ·cases h
      ·cases h
     ·rename_i ha
      split at h
      ·rename_i y rest hc
       simp only [Option.some.injEq, Prod.mk.injEq] at h
       obtain ⟨rfl, e3, e4, e5, rfl⟩ := h
       refine key _ ?_ e3 e4 e5 rfl
       unfold jb
       rw [if_neg hu, if_neg ha, hc]
       rfl
      ·rename_i w' xs rest hc
       simp only [Option.some.injEq, Prod.mk.injEq] at h
       obtain ⟨rfl, e3, e4, e5, rfl⟩ := h
       refine key _ ?_ e3 e4 e5 rfl
       unfold jb
       rw [if_neg hu, if_neg ha, hc, e3, e4]
       rfl
      ·cases h
   ·cases h
  ·cases h
 ·cases h
def BC (P : Program) (ops : Array Oper) (k : Nat) (st : St) : Option (Option Tmp × Bool × D × D × kH × D × Hp) :=
 match dT ops k st with
 | some o => match o.op with
  | .lookup T x ix ok => match P.underlying T with
   | some (.map KT ET) => match iP P KT, bK st x, bK st ix, nv P ET with
    | some kt, some dm, some dk, some z => some (o.dst, ok, dm, dk, kt, z, st.H)
    | _, _, _, _ => none
   | _ => none
  | _ => none
 | none => none
theorem BAt.look {K V : Type} [BEq K] {kc : Kc K} {v : Cd V} {d : Option Tmp} {ok : Bool} {mm : Option Nat} {key : K} {z : V} {q : Option V} {H0 : Hp} (hq : pM kc v H0 mm key = some q)
  (h : BC P ops k st = some (d, ok, cM.enc mm, kc.c.enc key, kc.kt, v.enc z, H0)) : BAt P ops k st d (sY v ok z q) := by
 unfold BC at h
 split at h
 ·rename_i o ho
  split at h
  ·rename_i T x ix ok' hop
   split at h
   ·rename_i KT ET hT
    split at h
    ·rename_i kt dm dk z' h1 h2 h3 h4
     simp only [Option.some.injEq, Prod.mk.injEq] at h
     obtain ⟨rfl, rfl, rfl, rfl, rfl, rfl, rfl⟩ := h
     obtain ⟨g1, g2⟩ := aW ho
     refine ⟨o, g1, g2, bQ.lookup hop hT h1 h2 h3 h4 hq, ?_, rfl⟩
     unfold sY
     cases ok' <;> rfl
    ·cases h
   ·cases h
  ·cases h
 ·cases h
theorem OWk.jG {pu : Bool} {α : Type} (p : Option α) (S : Option α → St) (h0 : st = S p) (hN : p = none → OWk P pu ops k (S none) Q) (hS : ∀ i, p = some i → OWk P pu ops k (S (some i)) Q) : OWk P pu ops k st Q := by
 subst h0
 cases p with
 | none => exact hN rfl
 | some i => exact hS i rfl
theorem OWk.heap {o : Oper} {st' : St} (L : List Nat) (l : List (Nat × SV)) (ho : ops[k]? = some o) (hw : cV ops st o = some true) (hs : OpS P false st o st') (hst : aV n L st' = some (l, H)) (h : OWk P false ops (k + 1) (sp n l H) Q) : OWk P false ops k st Q :=
 OWk.e ho hw hs (OWk.aG L (ay hst) h)
def vn (P : Program) (ops : Array Oper) (k : Nat) (st : St) : Option (Nat × Nat × D × Hp) :=
 match dT ops k st with
 | some o => match o.op with
  | .store T x y => match kZ st x, bK st y with
   | some (i, off), some d => if (P.underlying T).isNone = false ∧ d.cells.length = P.cellsOf T ∧ o.dst = none then some (i, off, d, st.H) else none
   | _, _ => none
  | _ => none
 | none => none
theorem OWk.hst {α : Type} {c : Cd α} {x : α} {i off : Nat} {H0 : Hp} (L : List Nat) (l : List (Nat × SV)) (hx : dA c H0 i off x = some H) (h : vn P ops k st = some (i, off, c.enc x, H0)) (hst : aV n L (st.hp H) = some (l, H))
  (hn : OWk P false ops (k + 1) (sp n l H) Q) : OWk P false ops k st Q := by
 unfold vn at h
 split at h
 ·rename_i o ho
  split at h
  ·rename_i T x y hop
   split at h
   ·rename_i i' off' d h1 h2
    split at h
    ·rename_i hc
     simp only [Option.some.injEq, Prod.mk.injEq] at h
     obtain ⟨rfl, rfl, rfl, rfl⟩ := h
     obtain ⟨g1, g2⟩ := aW ho
     exact OWk.heap n H L l g1 g2 (OpS.um hop hc.2.2 h1 h2 hc.1 hc.2.1 hx) hst hn
    ·cases h
   ·cases h
  ·cases h
 ·cases h
def newAt (P : Program) (ops : Array Oper) (k : Nat) (st : St) (l : List (Nat × Nat × Bool)) : Option (Option Tmp × ar × Hp × Bool) :=
 match dT ops k st with
 | some o => match o.op with
  | .alloc T => match nv P T with
   | some z => some (o.dst, .cells (fI l (z.cells.map .d)), st.H, false)
   | none => none
  | .box T x => match bK st x with
   | some y => some (o.dst, .cells (fI l (y.cells.map .d)), st.H, false)
   | none => none
  | .makeMap T none => some (o.dst, .map [], st.H, true)
  | _ => none
 | none => none
theorem OWk.iQ {d : Option Tmp} {ob : ar} {H0 : Hp} {q : Hp × Nat} {b : Bool} (nl : List (Nat × Nat × Bool)) (L : List Nat) (l : List (Nat × SV)) (hq : mw H0 ob = some q) (h : newAt P ops k st nl = some (d, ob, H0, b)) (hH : q.1 = H)
  (hst : aV n L ((st.hp H).put d (.d (if b then .map q.2 else .ptr q.2 0))) = some (l, H)) (hn : OWk P false ops (k + 1) (sp n l H) Q) : OWk P false ops k st Q := by
 cases hq
 subst hH
 unfold newAt at h
 split at h
 ·rename_i o ho
  obtain ⟨g1, g2⟩ := aW ho
  split at h
  ·rename_i T hop
   split at h
   ·rename_i z hz
    simp only [Option.some.injEq, Prod.mk.injEq] at h
    obtain ⟨rfl, rfl, rfl, rfl⟩ := h
    exact OWk.heap n _ L l g1 g2 (OpS.AJ nl hop hz) hst hn
   ·cases h
  ·rename_i T x hop
   split at h
   ·rename_i y hy
    simp only [Option.some.injEq, Prod.mk.injEq] at h
    obtain ⟨rfl, rfl, rfl, rfl⟩ := h
    exact OWk.heap n _ L l g1 g2 (OpS.CG nl hop hy) hst hn
   ·cases h
  ·rename_i T hop
   simp only [Option.some.injEq, Prod.mk.injEq] at h
   obtain ⟨rfl, rfl, rfl, rfl⟩ := h
   exact OWk.heap n _ L l g1 g2 (OpS.xG hop) hst hn
  ·cases h
 ·cases h
def BB (P : Program) (ops : Array Oper) (k : Nat) (st : St) : Option (D × D × D × kH × Hp) :=
 match dT ops k st with
 | some o => match (match o.op with | .mapUpdate T x ix y => some (T, x, ix, y) | .insert T x ix y => some (T, x, ix, y) | _ => none) with
  | some (T, x, ix, y) => match P.underlying T with
   | some (.map KT ET) => match iP P KT, bK st x, bK st ix, bK st y with
    | some kt, some dm, some dk, some dy => if o.dst = none then some (dm, dk, dy, kt, st.H) else none
    | _, _, _, _ => none
   | _ => none
  | none => none
 | none => none
theorem OWk.CD {K V : Type} [BEq K] {kc : Kc K} {v : Cd V} {mm : Option Nat} {key : K} {y : V} {H0 : Hp} (L : List Nat) (l : List (Nat × SV)) (hx : pK kc v H0 mm key y = some H) (h : BB P ops k st = some (cM.enc mm, kc.c.enc key, v.enc y, kc.kt, H0))
  (hst : aV n L (st.hp H) = some (l, H)) (hn : OWk P false ops (k + 1) (sp n l H) Q) : OWk P false ops k st Q := by
 unfold BB at h
 split at h
 ·rename_i o ho
  obtain ⟨g1, g2⟩ := aW ho
  split at h
  ·rename_i T x ix yx hop
   split at h
   ·rename_i KT ET hT
    split at h
    ·rename_i kt dm dk dy h1 h2 h3 h4
     split at h
     ·rename_i hd
      simp only [Option.some.injEq, Prod.mk.injEq] at h
      obtain ⟨rfl, rfl, rfl, rfl, rfl⟩ := h
      refine OWk.heap n H L l g1 g2 (OpS.mapUpdate ?_ hd hT h1 h2 h3 h4 hx) hst hn
      split at hop
      ·rename_i e; cases hop; exact .inl e
      ·rename_i e; cases hop; exact .inr e
      ·cases hop
     ·cases h
    ·cases h
   ·cases h
  ·cases h
 ·cases h
theorem pR {a : Act} {d : Nat} {v : Value} {x : Operand} (h : x ≠ .tmp d) : (a.put (some d) v).eval x = a.eval x := by
 cases x with
 | tmp t => exact bj (by simpa using fun e => h (by rw [e]))
 | _ => rfl
variable {pu : Bool}
theorem SW.jnH {α : Type} {x y : Code} {Q : Exit → St → Prop} (L : List Nat) (l : α → List (Nat × SV)) (Hf : α → Hp) (C : α → Prop) (hj : ∀ v, C v → SW P pu y (sp n (l v) (Hf v)) Q) (h : SW P pu x st (thenS (fun s => ∃ v ll, aV n L (s.gD ll) = some (l v, Hf v) ∧ C v) Q)) : SW P pu (.seq x y) st Q :=
 SW.Bp L (fun v => sp n (l v) (Hf v)) C hj (SW.mono h fun e s hh => by
  cases e with
  | normal => obtain ⟨v, ll, h1, h2⟩ := hh; exact ⟨v, ll, ay h1, h2⟩
  | _ => exact hh)
theorem SW.itH {γ β : Type} {c : Code} {Q : Exit → St → Prop} (L : List Nat) {body : γ → Option (γ ⊕ β)} (l : γ → List (Nat × SV)) (Hf : γ → Hp) (E : β → Exit → St → Prop) {fuel : Nat} {x : γ} {b : β} (hit : Sh.iter body fuel x = some b) (h0 : aV n L st = some (l x, Hf x))
  (round : ∀ x o, body x = some o → SW P pu c (sp n (l x) (Hf x)) (thenS (fun s' => ∃ y, o = .inl y ∧ aV n L s' = some (l y, Hf y)) (fun e s' => ∃ b, o = .inr b ∧ E b e s')))
  (after : ∀ e s', E b e s' → Q e s') : SW P pu (.loop c) st Q :=
 SW.z0 L (fun x => sp n (l x) (Hf x)) E hit (ay h0) (fun x o h => SW.mono (round x o h) fun e s hh => by
  cases e with
  | normal => obtain ⟨y, h1, h2⟩ := hh; exact ⟨y, h1, ay h2⟩
  | _ => exact hh) after
def gh (P : Program) (rs : List ResultVar) (r : SV) (e : Exit) (st : St) : Prop := ∃ H, aA P rs H r e st
theorem gh.ret {rs : List ResultVar} {r : SV} (l : List (Nat × Nat)) (h : wK P rs (st.gD l) = some r) : gh P rs r .ret st := ⟨st.H, .ret l h rfl⟩
end
theorem PC.ju {P : Program} {f : FuncId} {fn : Func} {c : Code} {args : List SV} {r : SV} (hf : P.funcs[f]? = some fn) (hb : fn.body = some c) (ha : args.all cU = true) (hr : cU r = true)
  (h : SW P false c (fJ fn.ntmps args []) (gh P fn.results.toList r)) : PC P f args r := by
 refine PC.xA ha hr fun w g vs hA hH => ?_
 have := nU (P := P) (pu := false) (args := args) (H := []) (r := r) (fun _ => True) hf hb (fun a w g hr => ?_) w g vs hA hH
 ·exact this.mono fun e w' hh => by
   obtain ⟨v, g', H', -, e1, e2, -, e3⟩ := hh
   exact ⟨v, g', e1, e2, e3⟩
 ·refine Code.wp_mono (fun e a' w' hh => ?_) (h a w g hr)
  obtain ⟨st', g', ⟨H', he, l, h1, h2⟩, r1, f⟩ := hh
  exact ⟨st'.gD l, g', ⟨he, mC h1, trivial⟩, r1.gD, f⟩
end Go.Sh
namespace Go.Sh
theorem iq {β α : Type} {a : α} {f : β → α} {r : α} (h : Option.elim none a f = r) : a = r := h
theorem im {β α : Type} {a : α} {f : β → α} {i : β} {r : α} (h : Option.elim (some i) a f = r) : f i = r := h
end Go.Sh
namespace Go.Sh
section
variable {P : Program} {st : St} {ops : Array Oper} {k : Nat} {Q : St → Prop} (n : Nat) (H : List ar) {K V : Type} [BEq K]
theorem tW {o : Oper} {rest : List Oper} {a : Act} {w w' : World} {v : Value} {Q : Exit → Act → World → Prop} (hg : o.guard = none) (hrun : (execOp a.eval o).run P w = .ok (.value v) w') (h : wpList P ops Q rest (a.put o.dst v) w') : wpList P ops Q (o :: rest) a w := by
 unfold wpList
 rw [show Region.wanted o (yielded ops a.tmps) = true by unfold Region.wanted; rw [hg], if_pos rfl]
 refine .inl ?_
 unfold Oper.wp
 rw [hrun, Oper.upon_value]
 exact h
theorem kP : ∀ (n : Nat) (l : List (Nat × SV)) (t : Nat), (spL l n t).length = n
 | 0, _, _ => rfl
 | n + 1, [], t => by simp [spL, kP n]
 | n + 1, (t', s) :: r, t => by simp only [spL]; split <;> simp [kP n]
end
end Go.Sh
namespace Go.Sh
def Bt (st : St) (s : Nat) : Option (Option Value × Nat × List D) :=
 match st.tmps[s]? with
 | some (.own n xs) => some (none, n, xs)
 | some (.pin v n xs) => some (some v, n, xs)
 | _ => none
section
variable {P : Program} {pu : Bool} {st : St} {ops : Array Oper} {k : Nat} {Q : St → Prop}
def Er (ops : Array Oper) (k : Nat) (st : St) : Option (Option Tmp × Nat) :=
 match dT ops k st with
 | some o => match o.op with
  | .move (.tmp s) => match Bt st s with
   | some _ => if o.dst != some s then some (o.dst, s) else none
   | none => none
  | _ => none
 | none => none
def BL : BinOp → Option Bool
 | .eql => some true
 | .neq => some false
 | _ => none
def Bw (P : Program) (ops : Array Oper) (k : Nat) (st : St) : Option (Option Tmp × Bool × List D) :=
 match dT ops k st with
 | some o => match o.op with
  | .binOp op T x (.const (.slice none 0 0)) _ => match BL op, gb st x, P.underlying T with
   | some e, some (_, _, xs), some (.slice _) => some (o.dst, e, xs)
   | _, _, _ => none
  | _ => none
 | none => none
theorem OWk.xD {xs : List D} {d : Option Tmp} {e : Bool} (m : Nat) (H : List ar) (L : List Nat) (l : Bool → List (Nat × SV)) (h : Bw P ops k st = some (d, e, xs)) (hst : ∀ b, aV m L (st.put d (.d (.bool b))) = some (l b, H))
  (hn : ∀ b, (b = e → xs = []) → OWk P pu ops (k + 1) (sp m (l b) H) Q) : OWk P pu ops k st Q := by
 unfold Bw at h
 split at h
 ·rename_i o ho
  split at h
  ·rename_i op T x yT hop
   split at h
   ·rename_i e' lo no xs' eT hop1 hl hT
    simp only [Option.some.injEq, Prod.mk.injEq] at h
    obtain ⟨rfl, rfl, rfl⟩ := h
    obtain ⟨g1, g2⟩ := aW ho
    have key : ∀ (a : Act) (w : World) (g : Gh), Rel st a w g → ∃ b : Bool, (b = e' → xs' = []) ∧ (execOp a.eval o).run P w = .ok (.value (.bool b)) w := by
     intro a w g hr
     have hL := dr hr hl
     obtain ⟨base, len, cap, hv, hnil⟩ : ∃ base len cap, a.eval x = .slice base len cap ∧ (base = none → xs' = []) := by
      rcases hL with ⟨rfl, b0, cap, hv⟩ | ⟨kb, off, cap, c, T0, fz, us, hv, -⟩
      ·exact ⟨b0, 0, cap, hv, fun _ => rfl⟩
      ·exact ⟨_, _, cap, hv, by simp⟩
     have hy : a.eval (.const (.slice none 0 0)) = .slice none 0 0 := rfl
     have hEq : (Op.equal T (.slice base len cap) (.slice none 0 0)).run P w = .ok base.isNone w := by
      simp [Op.equal, Op.maxDepth, Lib.run_equalIn_slice_nil w 9999 T eT base len cap 0 0 hT]
     cases op <;> simp only [BL, reduceCtorEq, Option.some.injEq] at hop1
     ·subst hop1
      refine ⟨base.isNone, fun hb => hnil (by cases base <;> simp_all), ?_⟩
      unfold execOp; rw [hop]
      have e1 : eqGuard .eql T x (.const (.slice none 0 0)) (.slice base len cap) (.slice none 0 0) = pure () := rfl
      have e2 : binOp .eql T (.slice base len cap) (.slice none 0 0) = (do pure (.bool (← Op.equal T (.slice base len cap) (.slice none 0 0))) : Sem Value) := rfl
      simp only [hv, hy, e1, e2, hEq, Sem.run_bind, Sem.run_pure, Result.andThen_ok]
     ·subst hop1
      refine ⟨!base.isNone, fun hb => hnil (by cases base <;> simp_all), ?_⟩
      unfold execOp; rw [hop]
      have e1 : eqGuard .neq T x (.const (.slice none 0 0)) (.slice base len cap) (.slice none 0 0) = pure () := rfl
      have e2 : binOp .neq T (.slice base len cap) (.slice none 0 0) = (do pure (.bool (!(← Op.equal T (.slice base len cap) (.slice none 0 0)))) : Sem Value) := rfl
      simp only [hv, hy, e1, e2, hEq, Sem.run_bind, Sem.run_pure, Result.andThen_ok]
    unfold OWk OW at hn ⊢
    rw [drop_cons g1]
    intro a w g hr Qc hq
    obtain ⟨b, hb, hrun⟩ := key a w g hr
    unfold wpList
    rw [aN hr g2, if_pos rfl]
    refine .inl ?_
    unfold Oper.wp
    rw [hrun, Oper.upon_value]
    exact hn b hb _ w g ((hr.b9 o.dst (v := .bool b) (s := .d (.bool b)) .bool).bk (ay (hst b))) Qc hq
   ·cases h
  ·cases h
 ·cases h
end
end Go.Sh
namespace Go.Sh
theorem aC {a : Act} {d t : Nat} {v : Value} (h : d ≠ t) : (a.put (some d) v).eval (.tmp t) = a.eval (.tmp t) := pR (fun e => h (by injection e with e; exact e.symm))
theorem aB {a : Act} {d : Nat} {v : Value} (h : d < a.tmps.size) : (a.put (some d) v).eval (.tmp d) = v := bb h
theorem al {a : Act} {d : Option Tmp} {v : Value} : (a.put d v).tmps.size = a.tmps.size := cm
section
variable {P : Program} {pu : Bool} {st : St} {ops : Array Oper}
def aS (o : Oper) (d : Option Tmp) (op : Op) : Prop := o.dst = d ∧ o.op = op ∧ o.guard = none
theorem ca {o : Oper} {rest : List Oper} {a : Act} {w : World} {v : Value} {Q : Act → Prop} {d : Option Tmp} {op : Op} (ho : aS o d op) (hrun : ∀ ty, (execOp a.eval { o with op := op, type := ty }).run P w = .ok (.value v) w) (h : wpStill P ops w Q rest (a.put d v)) :
  wpStill P ops w Q (o :: rest) a := by
 obtain ⟨h1, h2, h3⟩ := ho
 unfold wpStill
 rw [show Region.wanted o (yielded ops a.tmps) = true by unfold Region.wanted; rw [h3], if_pos rfl]
 unfold Oper.still
 have := hrun o.type
 subst h2
 rw [this, Oper.stillUpon_value, h1]
 exact h
theorem aM {o : Oper} {rest : List Oper} {a : Act} {w w' : World} {v : Value} {Q : Exit → Act → World → Prop} {d : Option Tmp} {op : Op} (ho : aS o d op) (hrun : ∀ ty, (execOp a.eval { o with op := op, type := ty }).run P w = .ok (.value v) w') (h : wpList P ops Q rest (a.put d v) w') :
  wpList P ops Q (o :: rest) a w := by
 obtain ⟨h1, h2, h3⟩ := ho
 have := hrun o.type
 subst h2
 subst h1
 exact tW h3 this h
theorem bM {a : Act} {w : World} {o : Oper} {x : Operand} {ty : TypeId} : (execOp a.eval { o with op := .move x, type := ty }).run P w = .ok (.value (a.eval x)) w := rfl
theorem lR {a : Act} {w : World} {o : Oper} {x : Operand} {ty : TypeId} : (execOp a.eval { o with op := .assign x, type := ty }).run P w = .ok (.value (a.eval x)) w := rfl
theorem wQ (k off : Nat) : (⟨k, off, none⟩ : Addr).add 0 = ⟨k, off, none⟩ := by simp [Addr.add_lit]
theorem sJ {T e : TypeId} (hu : P.underlying T = some (.slice e)) (hz : P.cellsOf e ≠ 0) {k off len cap : Nat} {i : Int} {ik : IntKind} (h0 : 0 ≤ i) (h1 : i ≤ cap) (w : World) :
  (Instr.sliceAt T (.slice (some ⟨k, off, none⟩) len cap) none (some (.int ik i)) none).run P w = .ok (.slice (some ⟨k, off, none⟩) i.toNat cap) w := by
 simp [Instr.sliceAt, Instr.slice, Instr.sliceBounds, Instr.sliceBound, asIntOf, run_underlying hu, h0, h1, ee hz, wQ]
theorem sI {T e : TypeId} (hu : P.underlying T = some (.slice e)) (hz : P.cellsOf e ≠ 0) {k off len cap : Nat} {i : Int} {ik : IntKind} (h0 : 0 ≤ i) (h1 : i ≤ len) (w : World) :
  (Instr.sliceAt T (.slice (some ⟨k, off, none⟩) len cap) (some (.int ik i)) none none).run P w = .ok (.slice (some ⟨k, if cap = i.toNat then off else off + i.toNat * P.cellsOf e, none⟩) (len - i.toNat) (cap - i.toNat)) w := by
 simp [Instr.sliceAt, Instr.slice, Instr.sliceBounds, Instr.sliceBound, asIntOf, run_underlying hu, h0, h1, ee hz, Addr.add_lit]
 split <;> rfl
theorem dY.take {g : Gh} {w : World} {a : Array Value} {n : Nat} {xs : List D} (h : dY g w a n xs) {i : Nat} (hi : i ≤ xs.length) : dY g w (a.extract 0 (i * n)) n (xs.take i) := by
 obtain ⟨h1, h2, h3⟩ := h
 have hin : i * n ≤ xs.length * n := Nat.mul_le_mul_right _ hi
 refine ⟨by simp [h1, Nat.min_eq_left hi, Nat.min_eq_left hin], fun p x hx => ?_, fun p x hx q y hy => ?_⟩
 ·rw [List.getElem?_take] at hx
  split at hx
  ·exact h2 p x hx
  ·cases hx
 ·rw [List.getElem?_take] at hx
  split at hx
  ·rename_i hp
   obtain ⟨u, u1, u2⟩ := h3 p x hx q y hy
   have hq : q < n := by rw [← h2 p x hx]; exact aD hy
   have : (p + 1) * n ≤ i * n := Nat.mul_le_mul_right _ hp
   rw [Nat.succ_mul] at this
   refine ⟨u, ?_, u2⟩
   rw [Array.getElem?_extract, if_pos (by rw [h1]; omega), Nat.zero_add]
   exact u1
  ·cases hx
theorem dY.drop {g : Gh} {w : World} {a : Array Value} {n : Nat} {xs : List D} (h : dY g w a n xs) {i : Nat} (hi : i ≤ xs.length) : dY g w (a.extract (i * n) (xs.length * n)) n (xs.drop i) := by
 obtain ⟨h1, h2, h3⟩ := h
 have hin : i * n ≤ xs.length * n := Nat.mul_le_mul_right _ hi
 refine ⟨by simp [h1, Nat.sub_mul], fun p x hx => ?_, fun p x hx q y hy => ?_⟩
 ·rw [List.getElem?_drop] at hx
  exact h2 _ x hx
 ·rw [List.getElem?_drop] at hx
  obtain ⟨u, u1, u2⟩ := h3 _ x hx q y hy
  have hq : q < n := by rw [← h2 _ x hx]; exact aD hy
  have hlt := aD hx
  have : (i + p + 1) * n ≤ xs.length * n := Nat.mul_le_mul_right _ hlt
  rw [Nat.succ_mul, Nat.add_mul] at this
  refine ⟨u, ?_, u2⟩
  rw [Array.getElem?_extract, if_pos (by rw [h1]; omega)]
  rw [Nat.add_mul, Nat.add_assoc] at u1
  exact u1
theorem bA.win {g g' : Gh} {w w' : World} {o : Loc} {flat c : Array Value} {n cap k off : Nat} {ys : List D} {T : TypeId} (hfl : dY g w flat n ys) (hb : w'.heap[k]? = some (.cells c T (0, 0))) (ho : g'.ow k = .lst o)
  (hcap : ys.length ≤ cap) (hsz : off + cap * n ≤ c.size) (hw : ∀ q, q < ys.length * n → c[off + q]? = flat[q]?) (hk : az .free g w g' w') (hρ : ck g g') : bA g' w' o (.slice (some ⟨k, off, none⟩) ys.length cap) n ys := by
 obtain ⟨h1, h2, h3⟩ := hfl
 refine .inr ⟨k, off, cap, c, T, fun i j => flat.getD (i * n + j) undef, rfl, ho, hb, hcap, hsz, h2, fun i x hx j y hy => ?_, fun i x hx j y hy => ?_⟩
 ·obtain ⟨u, u1, u2, u3⟩ := h3 i x hx j y hy
  have hg : flat.getD (i * n + j) undef = u := by simp [Array.getD_eq_getD_getElem?, u1]
  have hj : j < n := by rw [← h2 i x hx]; exact aD hy
  have := aD hx
  have : (i + 1) * n ≤ ys.length * n := Nat.mul_le_mul_right _ this
  rw [Nat.succ_mul] at this
  simp only [hg]
  refine ⟨?_, u3⟩
  rw [Nat.add_assoc, hw _ (by omega), u1]
 ·obtain ⟨u, u1, u2, u3⟩ := h3 i x hx j y hy
  have hg : flat.getD (i * n + j) undef = u := by simp [Array.getD_eq_getD_getElem?, u1]
  simp only [hg]
  exact u2.aG hk hρ
theorem bA.BK {g : Gh} {w : World} {o : Loc} {n : Nat} {xs : List D} {k off len cap : Nat} {c : Array Value} {T : TypeId} {us : Nat → Nat → Value} (hn : 0 < n) (hl : len = xs.length) (hcap : xs.length ≤ cap) (hsz : off + cap * n ≤ c.size)
  (hw : ∀ (i : Nat) (x : D), xs[i]? = some x → x.cells.length = n) (hcc : ∀ (i : Nat) (x : D), xs[i]? = some x → ∀ (j : Nat) (y : D), x.cells[j]? = some y → c[off + i * n + j]? = some (us i j) ∧ (us i j).oneCell' = true)
  (hrr : ∀ (i : Nat) (x : D), xs[i]? = some x → ∀ (j : Nat) (y : D), x.cells[j]? = some y → Rd g w (us i j) y) : dY g w (c.extract off (off + xs.length * n)) n xs := by
 have hs : off + xs.length * n ≤ c.size := by
  have : xs.length * n ≤ cap * n := Nat.mul_le_mul_right _ hcap
  omega
 refine ⟨by simp [Nat.min_eq_left hs], hw, fun i x hx j y hy => ⟨us i j, ?_, hrr i x hx j y hy, (hcc i x hx j y hy).2⟩⟩
 have hj : j < n := by rw [← hw i x hx]; exact aD hy
 have := aD hx
 have : (i + 1) * n ≤ xs.length * n := Nat.mul_le_mul_right _ this
 rw [Nat.succ_mul] at this
 rw [Array.getElem?_extract, if_pos (by omega), ← Nat.add_assoc]
 exact (hcc i x hx j y hy).1
end
end Go.Sh
namespace Go.Sh
section
variable {P : Program} {pu : Bool} {st : St} {ops : Array Oper}
theorem qu {a : Act} {w : World} {o : Oper} {I I2 ty : TypeId} {x y : Operand} {p q : Int} (hx : a.eval x = .int .i64 p) (hy : a.eval y = .int .i64 q) (h : -9223372036854775808 ≤ p + q ∧ p + q ≤ 9223372036854775807) :
  (execOp a.eval { o with op := .binOp .add I x y I2, type := ty }).run P w = .ok (.value (.int .i64 (p + q))) w := by
 have : (do eqGuard .add I x y (.int .i64 p) (.int .i64 q); binOp .add I (.int .i64 p) (.int .i64 q) : Sem Value).run P w = .ok (.int .i64 (IntKind.wrap .i64 (p + q))) w := rfl
 rw [IntWalk.i64_in _ h] at this
 unfold execOp
 simp only [hx, hy]
 simp only [Sem.run_bind] at this ⊢
 rw [this]
 rfl
theorem Ba {a : Act} {w : World} {o : Oper} {I I2 ty : TypeId} {x y : Operand} {p q : Int} (hx : a.eval x = .int .i64 p) (hy : a.eval y = .int .i64 q) (h : -9223372036854775808 ≤ p - q ∧ p - q ≤ 9223372036854775807) :
  (execOp a.eval { o with op := .binOp .sub I x y I2, type := ty }).run P w = .ok (.value (.int .i64 (p - q))) w := by
 have : (do eqGuard .sub I x y (.int .i64 p) (.int .i64 q); binOp .sub I (.int .i64 p) (.int .i64 q) : Sem Value).run P w = .ok (.int .i64 (IntKind.wrap .i64 (p - q))) w := rfl
 rw [IntWalk.i64_in _ h] at this
 unfold execOp
 simp only [hx, hy]
 simp only [Sem.run_bind] at this ⊢
 rw [this]
 rfl
theorem Bc {a : Act} {w : World} {o : Oper} {I I2 ty : TypeId} {x y : Operand} {p q : Int} (hx : a.eval x = .int .i64 p) (hy : a.eval y = .int .i64 q) :
  (execOp a.eval { o with op := .binOp .gtr I x y I2, type := ty }).run P w = .ok (.value (.bool (decide (p > q)))) w := by
 have : (do eqGuard .gtr I x y (.int .i64 p) (.int .i64 q); binOp .gtr I (.int .i64 p) (.int .i64 q) : Sem Value).run P w = .ok (.bool (decide (p > q))) w := rfl
 unfold execOp
 simp only [hx, hy]
 simp only [Sem.run_bind] at this ⊢
 rw [this]
 rfl
theorem Bb {a : Act} {w : World} {o : Oper} {I ty : TypeId} {x : Operand} {b : Bool} (hx : a.eval x = .bool b) :
  (execOp a.eval { o with op := .unOp .not I x, type := ty }).run P w = .ok (.value (.bool !b)) w := by
 unfold execOp
 simp only [hx]
 rfl
theorem Bd {a : Act} {w : World} {o : Oper} {T e ty : TypeId} {x : Operand} {b : Option Addr} {n c : Nat} (hu : P.underlying T = some (.slice e)) (hx : a.eval x = .slice b n c) :
  (execOp a.eval { o with op := .call ⟨.builtin .cap, #[x], #[T]⟩, type := ty }).run P w = .ok (.value (goInt c)) w := by
 unfold execOp
 simp only [resolve, List.map_toArray, List.map_cons, List.map_nil, Sem.run_bind, Sem.run_pure, Result.andThen_ok, invoke, builtin, hx]
 simp [Builtin.cap_, run_underlying hu]
theorem qt {a : Act} {w : World} {o : Oper} {T e ty : TypeId} {x y : Operand} (hu : P.underlying T = some (.slice e)) (hz : P.cellsOf e ≠ 0) {k off len cap : Nat} {i : Int} (hx : a.eval x = .slice (some ⟨k, off, none⟩) len cap) (hy : a.eval y = .int .i64 i) (h0 : 0 ≤ i) (h1 : i ≤ cap) :
  (execOp a.eval { o with op := .slice T x none (some y) none, type := ty }).run P w = .ok (.value (.slice (some ⟨k, off, none⟩) i.toNat cap)) w := by
 show (do pure (.value (← Instr.sliceAt T (a.eval x) none (some (a.eval y)) none)) : Sem Next).run P w = _
 simp only [Sem.run_bind]
 rw [hx, hy, sJ hu hz h0 h1]
 rfl
theorem fS {a : Act} {w : World} {o : Oper} {T e ty : TypeId} {x y : Operand} (hu : P.underlying T = some (.slice e)) (hz : P.cellsOf e ≠ 0) {k off len cap : Nat} {i : Int} (hx : a.eval x = .slice (some ⟨k, off, none⟩) len cap) (hy : a.eval y = .int .i64 i) (h0 : 0 ≤ i) (h1 : i ≤ len) :
  (execOp a.eval { o with op := .slice T x (some y) none none, type := ty }).run P w = .ok (.value (.slice (some ⟨k, if cap = i.toNat then off else off + i.toNat * P.cellsOf e, none⟩) (len - i.toNat) (cap - i.toNat))) w := by
 show (do pure (.value (← Instr.sliceAt T (a.eval x) (some (a.eval y)) none none)) : Sem Next).run P w = _
 simp only [Sem.run_bind]
 rw [hx, hy, sI hu hz h0 h1]
 rfl
theorem Ae {a : Act} {w w' : World} {o : Oper} {T T2 e ty : TypeId} {x y : Operand} {k off dl dc m n : Nat} {cs : Array Value} (hu : P.underlying T = some (.slice e)) (hz : P.cellsOf e = n) (hn : n ≠ 0) (hx : a.eval x = .slice (some ⟨k, off, none⟩) dl dc)
  (hl : (Builtin.lenOf (a.eval y)).run P w = .ok m w) (hc : (Builtin.firstCells n (Nat.min m dl) (a.eval y)).run P w = .ok cs w) (hs : (storeCells ⟨k, off, none⟩ cs.toList).run P w = .ok () w') :
  (execOp a.eval { o with op := .call ⟨.builtin .copy, #[x, y], #[T, T2]⟩, type := ty }).run P w = .ok (.value (goInt (Nat.min m dl))) w' := by
 subst hz
 unfold execOp
 simp only [resolve, List.map_toArray, List.map_cons, List.map_nil, Sem.run_bind, Sem.run_pure, Result.andThen_ok, invoke, builtin, hx]
 simp [Builtin.copy_, run_underlying hu, hl, ee hn, hc, hs]
theorem yK {a : Act} {w : World} {o : Oper} {f ty : Nat} {x y : Operand} {ts : Array TypeId} : (execOp a.eval { o with op := .call ⟨.value (.func f), #[x, y], ts⟩, type := ty }).run P w = (callFunc f #[a.eval x, a.eval y]).run P w := by
 unfold execOp
 simp only [resolve, Deferred.ofValue, List.map_toArray, List.map_cons, List.map_nil, Sem.run_bind, Sem.run_pure, Result.andThen_ok, invoke]
 rfl
theorem rF {T e : TypeId} {ps rs : Array TypeId} (hp : ps[0]? = some T) (hu : P.underlying T = some (.slice e)) (hz : P.cellsOf e ≠ 0) {kv ov m cv k o2 lb cb : Nat} {av c : Array Value} {Tv T0 : TypeId} {fz : Nat × Nat} {w : World} (hv : w.heap[kv]? = some (.cells av Tv fz))
  (hb : w.heap[k]? = some (.cells c T0 (0, 0))) (hne : kv ≠ k) (hm : 0 < m) (hl : 0 < lb) (hav : 0 < av.size) :
  (Extern.SlicesOverlaps.overlaps ps rs #[.slice (some ⟨kv, ov, none⟩) m cv, .slice (some ⟨k, o2, none⟩) lb cb]).run P w = .ok (.bool false) w := by
 have f2 : ∀ q, w.frozen? ⟨k, q, none⟩ = false := fun q => by simp [World.frozen?, hb]
 have s1 : w.shape? kv = some (Tv, av.size) := by simp [World.shape?, hv]
 have s2 : w.shape? k = some (T0, c.size) := by simp [World.shape?, hb]
 have hne' : (kv == k) = false := by simpa using hne
 have hm0 : m ≠ 0 := by omega
 have hl0 : lb ≠ 0 := by omega
 have ha0 : av.size ≠ 0 := by omega
 have hsz : (sizeOf e).run P w = .ok (P.cellsOf e) w := ee hz w
 have hvw : ∀ q, (noView ⟨kv, q, none⟩).run P w = .ok () w := fun q => by simp [noView, viewAt, shape, Sem.run_bind, Sem.run, s1]
 have hbw : ∀ q, (noView ⟨k, q, none⟩).run P w = .ok () w := fun q => by simp [noView, viewAt, shape, Sem.run_bind, Sem.run, s2]
 have hst : ∀ q, ∃ b, (stringish ⟨kv, q, none⟩).run P w = .ok b w := fun q => by
  cases hf : w.frozen? ⟨kv, q, none⟩
  ·exact ⟨w.frozen? ⟨kv, av.size, none⟩, by simp [stringish, frozen, shape, Sem.run_bind, Sem.run, s1, hf]⟩
  ·exact ⟨true, by simp [stringish, frozen, shape, Sem.run_bind, Sem.run, s1, hf]⟩
 have hst2 : ∀ q, (stringish ⟨k, q, none⟩).run P w = .ok false w := fun q => by
  simp [stringish, frozen, shape, Sem.run_bind, Sem.run, s2, f2]
 obtain ⟨bs, hbs⟩ := hst ov
 have hmb : (mayBeOne ⟨kv, ov, none⟩ ⟨k, o2, none⟩).run P w = .ok false w := by
  simp [mayBeOne, shape, Sem.run_bind, Sem.run, hbs, hst2, s1, s2]
  intro _
  obtain ⟨p, hp⟩ : ∃ p, av.size = p + 1 := ⟨av.size - 1, by omega⟩
  rw [hp]
  rfl
 have hbody : Extern.SlicesOverlaps.overlaps ps rs #[.slice (some ⟨kv, ov, none⟩) m cv, .slice (some ⟨k, o2, none⟩) lb cb] = (do
   let some t := ps[0]? | stuck "slices.overlaps: no parameter types"
   let .slice elem ← underlying t | stuck "slices.overlaps: slice type expected"
   let size ← sizeOf elem
   if m = 0 ∨ lb = 0 ∨ size = 0 then pure (.bool false)
   else if kv != k && (← frozen ⟨kv, ov, none⟩) && (← frozen ⟨k, o2, none⟩) then unsupported .addressObserved
   else do
    if kv != k then do
     noView ⟨kv, ov, none⟩; noView ⟨k, o2, none⟩
     if ← mayBeOne ⟨kv, ov, none⟩ ⟨k, o2, none⟩ then return .bool ((← choose (.extern "sameAddr.stringBytes" 2)) == 1)
    pure (.bool (kv == k && ov < o2 + lb * size && o2 < ov + m * size))) := rfl
 rw [hbody]
 simp [hp, run_underlying hu, hsz, hm0, hl0, hz, hne', frozen, Sem.run, f2, hvw, hbw, hmb]
theorem ru {a : Act} {w : World} {T I e : TypeId} {x y : Operand} {ti : TypeInfo} {z : Value} {base : Option Addr} {sLen sCap m : Nat} {olds : Array Value} {ik : IntKind} (hx : a.eval x = .slice base sLen sCap) (hy : a.eval y = .int .i64 m)
  (ht : P.underlying T = some (.slice e)) (hI : P.underlying I = some (.int ik)) (hi : P.info? e = some ti) (hz : ti.zero = some z) (hn : ti.size ≠ 0)
  (hold : (Builtin.firstCells ti.size sLen (.slice base sLen sCap)).run P w.drew = .ok olds w.drew) (hm : 0 < m) (hc : sCap < sLen + m) (h63 : sLen + m ≤ maxLen) (hb : (sLen + m) * ti.bytes ≤ 140737488355328) :
  ∃ gc, sLen + m ≤ gc ∧ ∀ (o : Oper) (ty : TypeId), (execOp a.eval { o with op := .call ⟨.builtin .append, #[x, y], #[T, I]⟩, type := ty }).run P w = .ok (.value (.slice (some ⟨w.heap.size, 0, none⟩) (sLen + m) gc))
   (w.drew.alloc (.cells (olds ++ Builtin.zeroCells z.cells m ++ Builtin.zeroCells z.cells (gc - (sLen + m))) e)) := by
 refine ⟨grownCap w (sLen + m) sCap e, grownCap_ge w (sLen + m) sCap e, fun o ty => ?_⟩
 have h63' : ¬ ((9223372036854775807 : Int) < (sLen : Int) + (m : Int)) := by unfold maxLen at h63; omega
 have h64 : IntKind.i64.wrap (m : Int) = m := IntWalk.i64_in _ (by unfold maxLen at h63; omega)
 have hnr : ¬ (sLen + m ≤ sCap) := by omega
 have h48 : ¬ (281474976710656 < Builtin.nextslicecap (sLen + m) sCap * ti.bytes) := by have := growslice_fits hc hb; omega
 have hmb : ¬ ((281474976710656 : Int) < (m : Int) * (ti.bytes : Int)) := by
  have h1 : m * ti.bytes ≤ (sLen + m) * ti.bytes := Nat.mul_le_mul_right _ (by omega)
  have h2 : (m : Int) * (ti.bytes : Int) = ((m * ti.bytes : Nat) : Int) := by rw [Int.natCast_mul]
  rw [h2]; omega
 have hmz : ¬ (m * ti.size = 0) := Nat.mul_ne_zero (by omega) hn
 have hm0 : ¬ m = 0 := by omega
 refine eQ (x := x) (y := y) rfl rfl rfl rfl ?_
 rw [hx, hy]
 simp [Builtin.append_, run_underlying ht, run_underlying hI, sizeOf, typeInfo, zeroValue, hi, hz, asInt, asIntOf, h64, hmb, hnr, h63', h48, hmz, hm0, hn, Question.forced, hold, newRow, grownCap]
 intro h
 omega
end
end Go.Sh
set_option maxRecDepth 10000
set_option maxHeartbeats 2000000
namespace Go.Sh
theorem Ai {n t : Nat} {s x : SV} {H : List ar} (h : (sp n [(6, x)] H).tmps[t]? = some s) : s = .undef ∨ (t = 6 ∧ s = x) := by
 have key : ∀ (n t0 : Nat) (t : Nat) (s : SV), (spL [(6, x)] n t0)[t]? = some s → s = .undef ∨ (t + t0 = 6 ∧ s = x) := by
  intro n
  induction n with
  | zero => intro t0 t s h; simp [spL] at h
  | succ n ih =>
   intro t0 t s h
   simp only [spL] at h
   split at h
   ·rename_i e
    cases t with
    | zero => simp at h; exact .inr ⟨by omega, h.symm⟩
    | succ t =>
     simp only [List.getElem?_cons_succ] at h
     refine .inl ?_
     have e2 : ∀ (n t0 t : Nat) (s : SV), (spL [] n t0)[t]? = some s → s = .undef := by
      intro n
      induction n with
      | zero => intro t0 t s h; simp [spL] at h
      | succ n ih => intro t0 t s h; cases t with
       | zero => simp [spL] at h; exact h.symm
       | succ t => simp only [spL, List.getElem?_cons_succ] at h; exact ih _ _ _ h
     exact e2 _ _ _ _ h
   ·cases t with
    | zero => simp at h; exact .inl h.symm
    | succ t =>
     simp only [List.getElem?_cons_succ] at h
     rcases ih (t0 + 1) t s h with e | ⟨e1, e2⟩
     ·exact .inl e
     ·exact .inr ⟨by omega, e2⟩
 rcases key n 0 t s h with e | ⟨e1, e2⟩
 ·exact .inl e
 ·exact .inr ⟨by omega, e2⟩
theorem oB {P : Program} {a : Act} {w w' : World} {o : Oper} {T T2 e ty : TypeId} {x y : Operand} {k off dl dc m n cnt : Nat} {cs : Array Value} (hu : P.underlying T = some (.slice e)) (hz : P.cellsOf e = n) (hn : n ≠ 0) (hx : a.eval x = .slice (some ⟨k, off, none⟩) dl dc)
  (hl : (Builtin.lenOf (a.eval y)).run P w = .ok m w) (hcnt : Nat.min m dl = cnt) (hc : (Builtin.firstCells n cnt (a.eval y)).run P w = .ok cs w) (hs : (storeCells ⟨k, off, none⟩ cs.toList).run P w = .ok () w') :
  (execOp a.eval { o with op := .call ⟨.builtin .copy, #[x, y], #[T, T2]⟩, type := ty }).run P w = .ok (.value (goInt cnt)) w' := by
 subst hcnt
 exact Ae hu hz hn hx hl hc hs
theorem SW.ins {P : Program} {T I B e : TypeId} {fo : Nat} {ik : IntKind} {ti : TypeInfo} {z : Value} {zd : D} {n : Nat} {xs ys : List D} {i : Int} {H : List ar} {Q : Exit → St → Prop} {Z : Code} {i8 i9 i10 i11 i12 i13 i14 i15 i16 i17 : Nat}
  {o8_0 o8_1 o8_2 o8_3 o8_4 o8_5 o9_0 o9_1 o9_2 o9_3 o9_4 o9_5 o9_6 o9_7 o9_8 o9_9 o10_0 o10_1 o10_2 o10_3 o10_4 o11_0 o11_1 o11_2 o11_3 o11_4 o11_5 o11_6 o11_7 o11_8 o12_0 o12_1 o13_0 o13_1 o13_2 o13_3 o13_4 o13_5 o14_0 o14_1 o14_2 o14_3 o14_4 o14_5 o14_6 o14_7 o15_0 o15_1 o15_2 o15_3 o15_4 o15_5 o15_6 o15_7 o15_8 o16_0 o16_1 o16_2 o16_3 o16_4 o17_0 o17_1 : Oper}
  (hT : P.underlying T = some (.slice e)) (hI : P.underlying I = some (.int ik)) (hi : P.info? e = some ti) (hz : ti.zero = some z) (hzd : jB z = some zd) (hzn : z.cells.size = n) (hsize : ti.size = n) (hn : 0 < n) (hby : ti.bytes ≤ 65536)
  (hov : ∀ (args : Array Value) (w : World), (callFunc fo args).run P w = ((Extern.SlicesOverlaps.overlaps #[T, T] #[B] args).run P w).andThen fun v w' => .ok (.value v) w')
  (hm : P.follows .mixedOrders = true) (hB11 : Region.lexTailB .any #[o11_0, o11_1, o11_2, o11_3, o11_4, o11_5, o11_6, o11_7, o11_8] 8 = true) (hB15 : Region.lexTailB .any #[o15_0, o15_1, o15_2, o15_3, o15_4, o15_5, o15_6, o15_7, o15_8] 8 = true)
  (h8_0 : aS o8_0 (some 26) (.move (.tmp 8)))
  (h8_1 : aS o8_1 (some 27) (.move (.tmp 7)))
  (h8_2 : aS o8_2 (some 28) (.binOp .add I (.tmp 26) (.tmp 27) I))
  (h8_3 : aS o8_3 (some 29) (.move (.tmp 0)))
  (h8_4 : aS o8_4 (some 30) (.call ⟨.builtin .cap, #[.tmp 29], #[T]⟩))
  (h8_5 : aS o8_5 (some 31) (.binOp .gtr I (.tmp 28) (.tmp 30) I))
  (h9_0 : aS o9_0 (some 32) (.move (.tmp 0)))
  (h9_1 : aS o9_1 (some 33) (.move (.tmp 1)))
  (h9_2 : aS o9_2 (some 34) (.slice T (.tmp 32) none (some (.tmp 33)) none))
  (h9_3 : aS o9_3 (some 35) (.move (.tmp 8)))
  (h9_4 : aS o9_4 (some 36) (.move (.tmp 7)))
  (h9_5 : aS o9_5 (some 37) (.binOp .add I (.tmp 35) (.tmp 36) I))
  (h9_6 : aS o9_6 (some 38) (.move (.tmp 1)))
  (h9_7 : aS o9_7 (some 39) (.binOp .sub I (.tmp 37) (.tmp 38) I))
  (h9_8 : aS o9_8 (some 40) (.call ⟨.builtin .append, #[.tmp 34, .tmp 39], #[T, I]⟩))
  (h9_9 : aS o9_9 (some 9) (.assign (.tmp 40)))
  (h10_0 : aS o10_0 (some 41) (.move (.tmp 9)))
  (h10_1 : aS o10_1 (some 42) (.move (.tmp 1)))
  (h10_2 : aS o10_2 (some 43) (.slice T (.tmp 41) (some (.tmp 42)) none none))
  (h10_3 : aS o10_3 (some 44) (.move (.tmp 2)))
  (h10_4 : aS o10_4 (some 45) (.call ⟨.builtin .copy, #[.tmp 43, .tmp 44], #[T, T]⟩))
  (h11_0 : aS o11_0 (some 46) (.move (.tmp 9)))
  (h11_1 : aS o11_1 (some 47) (.move (.tmp 1)))
  (h11_2 : aS o11_2 (some 48) (.move (.tmp 7)))
  (h11_3 : aS o11_3 (some 49) (.binOp .add I (.tmp 47) (.tmp 48) I))
  (h11_4 : aS o11_4 (some 50) (.slice T (.tmp 46) (some (.tmp 49)) none none))
  (h11_5 : aS o11_5 (some 51) (.move (.tmp 0)))
  (h11_6 : aS o11_6 (some 52) (.move (.tmp 1)))
  (h11_7 : aS o11_7 (some 53) (.slice T (.tmp 51) (some (.tmp 52)) none none))
  (h11_8 : aS o11_8 (some 54) (.call ⟨.builtin .copy, #[.tmp 50, .tmp 53], #[T, T]⟩))
  (h12_0 : aS o12_0 (some 55) (.move (.tmp 9)))
  (h12_1 : aS o12_1 (some 6) (.assign (.tmp 55)))
  (h13_0 : aS o13_0 (some 56) (.move (.tmp 0)))
  (h13_1 : aS o13_1 (some 57) (.move (.tmp 8)))
  (h13_2 : aS o13_2 (some 58) (.move (.tmp 7)))
  (h13_3 : aS o13_3 (some 59) (.binOp .add I (.tmp 57) (.tmp 58) I))
  (h13_4 : aS o13_4 (some 60) (.slice T (.tmp 56) none (some (.tmp 59)) none))
  (h13_5 : aS o13_5 (some 0) (.assign (.tmp 60)))
  (h14_0 : aS o14_0 (some 61) (.move (.tmp 2)))
  (h14_1 : aS o14_1 (some 62) (.move (.tmp 0)))
  (h14_2 : aS o14_2 (some 63) (.move (.tmp 1)))
  (h14_3 : aS o14_3 (some 64) (.move (.tmp 7)))
  (h14_4 : aS o14_4 (some 65) (.binOp .add I (.tmp 63) (.tmp 64) I))
  (h14_5 : aS o14_5 (some 66) (.slice T (.tmp 62) (some (.tmp 65)) none none))
  (h14_6 : aS o14_6 (some 67) (.call ⟨.value (.func fo), #[.tmp 61, .tmp 66], #[T, T]⟩))
  (h14_7 : aS o14_7 (some 68) (.unOp .not B (.tmp 67)))
  (h15_0 : aS o15_0 (some 69) (.move (.tmp 0)))
  (h15_1 : aS o15_1 (some 70) (.move (.tmp 1)))
  (h15_2 : aS o15_2 (some 71) (.move (.tmp 7)))
  (h15_3 : aS o15_3 (some 72) (.binOp .add I (.tmp 70) (.tmp 71) I))
  (h15_4 : aS o15_4 (some 73) (.slice T (.tmp 69) (some (.tmp 72)) none none))
  (h15_5 : aS o15_5 (some 74) (.move (.tmp 0)))
  (h15_6 : aS o15_6 (some 75) (.move (.tmp 1)))
  (h15_7 : aS o15_7 (some 76) (.slice T (.tmp 74) (some (.tmp 75)) none none))
  (h15_8 : aS o15_8 (some 77) (.call ⟨.builtin .copy, #[.tmp 73, .tmp 76], #[T, T]⟩))
  (h16_0 : aS o16_0 (some 78) (.move (.tmp 0)))
  (h16_1 : aS o16_1 (some 79) (.move (.tmp 1)))
  (h16_2 : aS o16_2 (some 80) (.slice T (.tmp 78) (some (.tmp 79)) none none))
  (h16_3 : aS o16_3 (some 81) (.move (.tmp 2)))
  (h16_4 : aS o16_4 (some 82) (.call ⟨.builtin .copy, #[.tmp 80, .tmp 81], #[T, T]⟩))
  (h17_0 : aS o17_0 (some 83) (.move (.tmp 0)))
  (h17_1 : aS o17_1 (some 6) (.assign (.tmp 83)))
  (hc : (decide (0 ≤ i) && decide (i < xs.length) && decide (0 < ys.length) && decide (xs.length + ys.length ≤ room)) = true)
  (hq : Q .ret (sp 95 [(6, .own n (xs.take i.toNat ++ ys ++ xs.drop i.toNat))] H)) :
  SW P true (.seq (.seq (.region i8 #[o8_0, o8_1, o8_2, o8_3, o8_4, o8_5] false) (.cond (.tmp 31) (.seq (.region i9 #[o9_0, o9_1, o9_2, o9_3, o9_4, o9_5, o9_6, o9_7, o9_8, o9_9] false) (.seq (.region i10 #[o10_0, o10_1, o10_2, o10_3, o10_4] false) (.seq (.region i11 #[o11_0, o11_1, o11_2, o11_3, o11_4, o11_5, o11_6, o11_7, o11_8] true) (.seq (.region i12 #[o12_0, o12_1] false) .ret)))) .skip)) (.seq (.region i13 #[o13_0, o13_1, o13_2, o13_3, o13_4, o13_5] false) (.seq (.seq (.region i14 #[o14_0, o14_1, o14_2, o14_3, o14_4, o14_5, o14_6, o14_7] false) (.cond (.tmp 68) (.seq (.region i15 #[o15_0, o15_1, o15_2, o15_3, o15_4, o15_5, o15_6, o15_7, o15_8] true) (.seq (.region i16 #[o16_0, o16_1, o16_2, o16_3, o16_4] false) (.seq (.region i17 #[o17_0, o17_1] false) .ret))) .skip)) Z))) (sp 95 [(0, .own n xs), (1, vI i), (2, .d (.list n ys)), (7, vI ys.length), (8, vI xs.length)] H) Q := by
 intro a w g hr
 simp only [Bool.and_eq_true, decide_eq_true_eq] at hc
 obtain ⟨⟨⟨i0, il⟩, m0⟩, hroom⟩ := hc
 obtain ⟨i, rfl⟩ : ∃ p : Nat, i = (p : Int) := ⟨i.toNat, by omega⟩
 simp only [Int.toNat_natCast] at hq
 have il : i < xs.length := by omega
 unfold room at hroom
 have hce : P.cellsOf e = n := by simp [Program.cellsOf, hi, hsize]
 have hn0 : P.cellsOf e ≠ 0 := by omega
 have hsz : a.tmps.size = 95 := by rw [hr.len]; simp [sp, kP]
 have g0 : bA g w (.slot 0) (valOf a 0) n xs := hr.tmp 0 (.own n xs) rfl
 have e1 : a.eval (.tmp 1) = .int .i64 (i : Int) := bG hr (d := .int .i64 (i : Int)) rfl rfl
 have e7 : a.eval (.tmp 7) = .int .i64 (ys.length : Int) := bG hr (d := .int .i64 (ys.length : Int)) rfl rfl
 have e8 : a.eval (.tmp 8) = .int .i64 (xs.length : Int) := bG hr (d := .int .i64 (xs.length : Int)) rfl rfl
 rcases g0 with ⟨rfl, -⟩ | ⟨k, off, cap, c, T0, us, hv, hk, hb, hl, hzz, hw, hcc, hrr⟩
 ·simp at il
 have e0 : a.eval (.tmp 0) = .slice (some ⟨k, off, none⟩) xs.length cap := hv
 rcases (hr.tmp 2 (.d (.list n ys)) rfl : Rd g w (valOf a 2) (.list n ys)).toList with ⟨rfl, -⟩ | ⟨kv, ov, cv, av, Tv, fz, uv, hv2, hk2, hb2, hl2, hw2, hcc2, hrr2⟩
 ·simp at m0
 have e2 : a.eval (.tmp 2) = .slice (some ⟨kv, ov, none⟩) ys.length cv := hv2
 have hkv : g.ow kv = .free := gC.1 hk2
 have hne : kv ≠ k := by rintro rfl; rw [hk] at hkv; cases hkv
 have hdef := hr.cH
 have flx := bA.BK (g := g) (w := w) (k := k) (T := T0) (o := .slot 0) hn rfl hl hzz hw hcc hrr
 have hav : ov + ys.length * n ≤ av.size := by
  have hx : ys[ys.length - 1]? = some ys[ys.length - 1] := by simp [m0]
  have hcl := hw2 _ _ hx
  obtain ⟨h1, -⟩ := hcc2 _ _ hx (n - 1) (ys[ys.length - 1].cells[n - 1]'(by omega)) (by simp)
  have := gg h1
  have h2 : ys.length * n = (ys.length - 1) * n + n := by
   obtain ⟨m, hm⟩ : ∃ m, ys.length = m + 1 := ⟨ys.length - 1, by omega⟩
   rw [hm, Nat.add_sub_cancel, Nat.succ_mul]
  omega
 have fly : dY g w (av.extract ov (ov + ys.length * n)) n ys := by
  refine ⟨by simp [Nat.min_eq_left hav], hw2, fun p x hx j y hy => ⟨uv p j, ?_, hrr2 p x hx j y hy, (hcc2 p x hx j y hy).2⟩⟩
  have hj : j < n := by rw [← hw2 p x hx]; exact aD hy
  have := aD hx
  have : (p + 1) * n ≤ ys.length * n := Nat.mul_le_mul_right _ this
  rw [Nat.succ_mul] at this
  rw [Array.getElem?_extract, if_pos (by omega), ← Nat.add_assoc]
  exact (hcc2 p x hx j y hy).1
 have hin : i * n + (xs.length - i) * n = xs.length * n := by rw [← Nat.add_mul]; congr 1; omega
 have hcapn : xs.length * n ≤ cap * n := Nat.mul_le_mul_right _ hl
 have hmn : 0 < ys.length * n := Nat.mul_pos m0 hn
 let zs := xs.take i ++ ys ++ xs.drop i
 have hzl : zs.length = xs.length + ys.length := by simp [zs]; omega
 have flz : dY g w ((c.extract off (off + xs.length * n)).extract 0 (i * n) ++ av.extract ov (ov + ys.length * n) ++ (c.extract off (off + xs.length * n)).extract (i * n) (xs.length * n)) n zs := ((flx.take (by omega)).append fly).append (flx.drop (by omega))
 have hf1 : ((c.extract off (off + xs.length * n)).extract 0 (i * n)).size = i * n := by rw [(flx.take (i := i) (by omega)).1, List.length_take, Nat.min_eq_left (by omega)]
 have hf2 : (av.extract ov (ov + ys.length * n)).size = ys.length * n := fly.1
 have hflat : ∀ q, q < zs.length * n → ((c.extract off (off + xs.length * n)).extract 0 (i * n) ++ av.extract ov (ov + ys.length * n) ++ (c.extract off (off + xs.length * n)).extract (i * n) (xs.length * n))[q]? = if q < i * n then c[off + q]? else if q < i * n + ys.length * n then av[ov + (q - i * n)]? else c[off + (q - ys.length * n)]? := fun q hq => by
  rw [hzl, Nat.add_mul] at hq
  have hszF := flx.1
  split
  ·rw [Array.append_assoc, Array.getElem?_append_left (by omega), Array.getElem?_extract, if_pos (by omega), Array.getElem?_extract, if_pos (by omega)]
   congr 1; omega
  ·split
   ·rw [Array.append_assoc, Array.getElem?_append_right (by omega), hf1, Array.getElem?_append_left (by omega), Array.getElem?_extract, if_pos (by omega)]
   ·rw [Array.append_assoc, Array.getElem?_append_right (by omega), hf1, Array.getElem?_append_right (by omega), hf2, Array.getElem?_extract, if_pos (by omega), Array.getElem?_extract, if_pos (by omega)]
    congr 1; omega
 have fin : ∀ (a' : Act) (w' : World) (g' : Gh) (v : Value), a'.tmps.size = 95 → a'.defers = [] → a'.eval (.tmp 6) = v → bA g' w' (.slot 6) v n zs → (∀ o, o ≠ .lst (.slot 0) → az o g w g' w') → g'.ρ = g.ρ → w.heap.size ≤ w'.heap.size → cq w w' → ∃ st' g', Q .ret st' ∧ Rel st' a' w' g' ∧ Fr true g w g' w' := fun a' w' g' v h1 h2 h3 h4 h5 h6 h7 h8 => by
  refine ⟨_, g', hq, ⟨by rw [h1]; simp [sp, kP], h2, fun t s hs => ?_, ?_⟩, Fr.rR (l := .slot 0) (by simp) h7 h5 h6 h8⟩
  ·rcases Ai hs with rfl | ⟨rfl, rfl⟩
   ·trivial
   ·show bA g' w' (.slot 6) (a'.eval (.tmp 6)) n zs
    rw [h3]; exact h4
  ·exact hr.hp.aG (fun o ho => h5 o fun e => by subst e; exact ho.elim) (fun _ _ h => by rw [h6]; exact h) (by rw [h6])
 refine wp_seq (wp_seq (wp_region_lit (l := [o8_0, o8_1, o8_2, o8_3, o8_4, o8_5]) ?_))
 refine aM h8_0 (w' := w) (v := .int .i64 (xs.length : Int)) (fun _ => by rw [bM]; simp [aC, aB, al, hsz, e0, e1, e2, e7, e8]) ?_
 refine aM h8_1 (w' := w) (v := .int .i64 (ys.length : Int)) (fun _ => by rw [bM]; simp [aC, aB, al, hsz, e0, e1, e2, e7, e8]) ?_
 refine aM h8_2 (w' := w) (v := .int .i64 ((xs.length : Int) + (ys.length : Int))) (fun _ => qu (by simp [aC, aB, al, hsz, e0, e1, e2, e7, e8]) (by simp [aC, aB, al, hsz, e0, e1, e2, e7, e8]) (by constructor <;> omega)) ?_
 refine aM h8_3 (w' := w) (v := .slice (some ⟨k, off, none⟩) (xs.length) (cap)) (fun _ => by rw [bM]; simp [aC, aB, al, hsz, e0, e1, e2, e7, e8]) ?_
 refine aM h8_4 (w' := w) (v := goInt cap) (fun _ => Bd (b := some ⟨k, off, none⟩) (n := xs.length) hT (by simp [aC, aB, al, hsz, e0, e1, e2, e7, e8])) ?_
 refine aM h8_5 (w' := w) (v := .bool (decide ((xs.length : Int) + (ys.length : Int) > (cap : Int)))) (fun _ => Bc (by simp [aC, aB, al, hsz, e0, e1, e2, e7, e8]) (by simp [aC, aB, al, hsz]; rfl)) ?_
 generalize hA : (((((a.put (some 26) (.int .i64 (xs.length : Int))).put (some 27) (.int .i64 (ys.length : Int))).put (some 28) (.int .i64 ((xs.length : Int) + (ys.length : Int)))).put (some 29) (.slice (some ⟨k, off, none⟩) (xs.length) (cap))).put (some 30) (goInt cap)).put (some 31) (.bool (decide ((xs.length : Int) + (ys.length : Int) > (cap : Int)))) = b
 have e0' : b.eval (.tmp 0) = .slice (some ⟨k, off, none⟩) (xs.length) (cap) := by subst hA; simp [aC, aB, al, hsz, e0, e1, e2, e7, e8]
 have e1' : b.eval (.tmp 1) = .int .i64 (i : Int) := by subst hA; simp [aC, aB, al, hsz, e0, e1, e2, e7, e8]
 have e2' : b.eval (.tmp 2) = .slice (some ⟨kv, ov, none⟩) (ys.length) (cv) := by subst hA; simp [aC, aB, al, hsz, e0, e1, e2, e7, e8]
 have e7' : b.eval (.tmp 7) = .int .i64 (ys.length : Int) := by subst hA; simp [aC, aB, al, hsz, e0, e1, e2, e7, e8]
 have e8' : b.eval (.tmp 8) = .int .i64 (xs.length : Int) := by subst hA; simp [aC, aB, al, hsz, e0, e1, e2, e7, e8]
 have n31' : b.eval (.tmp 31) = .bool (decide ((xs.length : Int) + (ys.length : Int) > (cap : Int))) := by subst hA; simp [aC, aB, al, hsz, e0, e1, e2, e7, e8]
 have hsz' : b.tmps.size = 95 := by subst hA; simp [al, hsz, e0, e1, e2, e7, e8]
 have hdef' : b.defers = [] := by subst hA; simpa [bZ] using hdef
 clear hA hsz hdef e0 e1 e2 e7 e8
 have e0 := e0'
 have e1 := e1'
 have e2 := e2'
 have e7 := e7'
 have e8 := e8'
 have n31 := n31'
 have hsz := hsz'
 have hdef := hdef'
 clear hsz' hdef' e0' e1' e2' e7' e8' n31'
 refine wp_cond n31 ?_
 by_cases hroomy : xs.length + ys.length ≤ cap
 ·rw [show decide ((xs.length : Int) + (ys.length : Int) > (cap : Int)) = false by simp; omega]
  refine wp_skip (wp_seq (wp_region_lit (l := [o13_0, o13_1, o13_2, o13_3, o13_4, o13_5]) ?_))
  refine aM h13_0 (w' := w) (v := .slice (some ⟨k, off, none⟩) (xs.length) (cap)) (fun _ => by rw [bM]; simp [aC, aB, al, hsz, e0, e1, e2, e7, e8]) ?_
  refine aM h13_1 (w' := w) (v := .int .i64 (xs.length : Int)) (fun _ => by rw [bM]; simp [aC, aB, al, hsz, e0, e1, e2, e7, e8]) ?_
  refine aM h13_2 (w' := w) (v := .int .i64 (ys.length : Int)) (fun _ => by rw [bM]; simp [aC, aB, al, hsz, e0, e1, e2, e7, e8]) ?_
  refine aM h13_3 (w' := w) (v := .int .i64 ((xs.length : Int) + (ys.length : Int))) (fun _ => qu (by simp [aC, aB, al, hsz, e0, e1, e2, e7, e8]) (by simp [aC, aB, al, hsz, e0, e1, e2, e7, e8]) (by constructor <;> omega)) ?_
  refine aM h13_4 (w' := w) (v := .slice (some ⟨k, off, none⟩) (xs.length + ys.length) (cap)) (fun _ => by rw [qt (k := k) (off := off) (len := xs.length) (cap := cap) (i := (xs.length : Int) + (ys.length : Int)) hT hn0 (by simp [aC, aB, al, hsz, e0, e1, e2, e7, e8]) (by simp [aC, aB, al, hsz, e0, e1, e2, e7, e8]) (by omega) (by omega)]; rw [show ((xs.length : Int) + (ys.length : Int)).toNat = xs.length + ys.length by omega]) ?_
  refine aM h13_5 (w' := w) (v := .slice (some ⟨k, off, none⟩) (xs.length + ys.length) (cap)) (fun _ => by rw [lR]; simp [aC, aB, al, hsz, e0, e1, e2, e7, e8]) ?_
  generalize hA : (((((b.put (some 56) (.slice (some ⟨k, off, none⟩) (xs.length) (cap))).put (some 57) (.int .i64 (xs.length : Int))).put (some 58) (.int .i64 (ys.length : Int))).put (some 59) (.int .i64 ((xs.length : Int) + (ys.length : Int)))).put (some 60) (.slice (some ⟨k, off, none⟩) (xs.length + ys.length) (cap))).put (some 0) (.slice (some ⟨k, off, none⟩) (xs.length + ys.length) (cap)) = b2
  have e0' : b2.eval (.tmp 0) = .slice (some ⟨k, off, none⟩) (xs.length + ys.length) (cap) := by subst hA; simp [aC, aB, al, hsz, e0, e1, e2, e7, e8]
  have e1' : b2.eval (.tmp 1) = .int .i64 (i : Int) := by subst hA; simp [aC, aB, al, hsz, e0, e1, e2, e7, e8]
  have e2' : b2.eval (.tmp 2) = .slice (some ⟨kv, ov, none⟩) (ys.length) (cv) := by subst hA; simp [aC, aB, al, hsz, e0, e1, e2, e7, e8]
  have e7' : b2.eval (.tmp 7) = .int .i64 (ys.length : Int) := by subst hA; simp [aC, aB, al, hsz, e0, e1, e2, e7, e8]
  have e8' : b2.eval (.tmp 8) = .int .i64 (xs.length : Int) := by subst hA; simp [aC, aB, al, hsz, e0, e1, e2, e7, e8]
  have hsz' : b2.tmps.size = 95 := by subst hA; simp [al, hsz, e0, e1, e2, e7, e8]
  have hdef' : b2.defers = [] := by subst hA; simpa [bZ] using hdef
  clear hA hsz hdef e0 e1 e2 e7 e8
  have e0 := e0'
  have e1 := e1'
  have e2 := e2'
  have e7 := e7'
  have e8 := e8'
  have hsz := hsz'
  have hdef := hdef'
  clear hsz' hdef' e0' e1' e2' e7' e8'
  refine wp_seq (wp_seq (wp_region_lit (l := [o14_0, o14_1, o14_2, o14_3, o14_4, o14_5, o14_6, o14_7]) ?_))
  refine aM h14_0 (w' := w) (v := .slice (some ⟨kv, ov, none⟩) (ys.length) (cv)) (fun _ => by rw [bM]; simp [aC, aB, al, hsz, e0, e1, e2, e7, e8]) ?_
  refine aM h14_1 (w' := w) (v := .slice (some ⟨k, off, none⟩) (xs.length + ys.length) (cap)) (fun _ => by rw [bM]; simp [aC, aB, al, hsz, e0, e1, e2, e7, e8]) ?_
  refine aM h14_2 (w' := w) (v := .int .i64 (i : Int)) (fun _ => by rw [bM]; simp [aC, aB, al, hsz, e0, e1, e2, e7, e8]) ?_
  refine aM h14_3 (w' := w) (v := .int .i64 (ys.length : Int)) (fun _ => by rw [bM]; simp [aC, aB, al, hsz, e0, e1, e2, e7, e8]) ?_
  refine aM h14_4 (w' := w) (v := .int .i64 ((i : Int) + (ys.length : Int))) (fun _ => qu (by simp [aC, aB, al, hsz, e0, e1, e2, e7, e8]) (by simp [aC, aB, al, hsz, e0, e1, e2, e7, e8]) (by constructor <;> omega)) ?_
  refine aM h14_5 (w' := w) (v := .slice (some ⟨k, off + (i + ys.length) * n, none⟩) (xs.length + ys.length - (i + ys.length)) (cap - (i + ys.length))) (fun _ => by rw [fS (k := k) (off := off) (len := xs.length + ys.length) (cap := cap) (i := (i : Int) + (ys.length : Int)) hT hn0 (by simp [aC, aB, al, hsz, e0, e1, e2, e7, e8]) (by simp [aC, aB, al, hsz, e0, e1, e2, e7, e8]) (by omega) (by omega), hce]; rw [show ((i : Int) + (ys.length : Int)).toNat = i + ys.length by omega, if_neg (by omega)]) ?_
  refine aM h14_6 (w' := w) (v := .bool false) (fun _ => ?_) ?_
  ·have hovr := rF (P := P) (T := T) (ps := #[T, T]) (rs := #[B]) (ov := ov) (cv := cv) (o2 := off + (i + ys.length) * n) (cb := cap - (i + ys.length)) (m := ys.length) (lb := xs.length + ys.length - (i + ys.length)) rfl hT hn0 hb2 hb hne m0 (by omega) (by omega)
   rw [yK, hov]
   simp only [aC (show (66 : Nat) ≠ 61 by decide), aC (show (65 : Nat) ≠ 61 by decide), aC (show (64 : Nat) ≠ 61 by decide), aC (show (63 : Nat) ≠ 61 by decide), aC (show (62 : Nat) ≠ 61 by decide)]
   rw [aB (by omega), aB (by simp only [al]; omega), hovr]
   rfl
  refine aM h14_7 (w' := w) (v := .bool true) (fun _ => Bb (b := false) (by simp [aC, aB, al, hsz, e0, e1, e2, e7, e8])) ?_
  generalize hA : (((((((b2.put (some 61) (.slice (some ⟨kv, ov, none⟩) (ys.length) (cv))).put (some 62) (.slice (some ⟨k, off, none⟩) (xs.length + ys.length) (cap))).put (some 63) (.int .i64 (i : Int))).put (some 64) (.int .i64 (ys.length : Int))).put (some 65) (.int .i64 ((i : Int) + (ys.length : Int)))).put (some 66) (.slice (some ⟨k, off + (i + ys.length) * n, none⟩) (xs.length + ys.length - (i + ys.length)) (cap - (i + ys.length)))).put (some 67) (.bool false)).put (some 68) (.bool true) = b3
  have e0' : b3.eval (.tmp 0) = .slice (some ⟨k, off, none⟩) (xs.length + ys.length) (cap) := by subst hA; simp [aC, aB, al, hsz, e0, e1, e2, e7, e8]
  have e1' : b3.eval (.tmp 1) = .int .i64 (i : Int) := by subst hA; simp [aC, aB, al, hsz, e0, e1, e2, e7, e8]
  have e2' : b3.eval (.tmp 2) = .slice (some ⟨kv, ov, none⟩) (ys.length) (cv) := by subst hA; simp [aC, aB, al, hsz, e0, e1, e2, e7, e8]
  have e7' : b3.eval (.tmp 7) = .int .i64 (ys.length : Int) := by subst hA; simp [aC, aB, al, hsz, e0, e1, e2, e7, e8]
  have e8' : b3.eval (.tmp 8) = .int .i64 (xs.length : Int) := by subst hA; simp [aC, aB, al, hsz, e0, e1, e2, e7, e8]
  have n68' : b3.eval (.tmp 68) = .bool true := by subst hA; simp [aC, aB, al, hsz, e0, e1, e2, e7, e8]
  have hsz' : b3.tmps.size = 95 := by subst hA; simp [al, hsz, e0, e1, e2, e7, e8]
  have hdef' : b3.defers = [] := by subst hA; simpa [bZ] using hdef
  clear hA hsz hdef e0 e1 e2 e7 e8
  have e0 := e0'
  have e1 := e1'
  have e2 := e2'
  have e7 := e7'
  have e8 := e8'
  have n68 := n68'
  have hsz := hsz'
  have hdef := hdef'
  clear hsz' hdef' e0' e1' e2' e7' e8' n68'
  refine wp_cond_true n68 (wp_seq (wp_region_still_tail (l := [o15_0, o15_1, o15_2, o15_3, o15_4, o15_5, o15_6, o15_7, o15_8]) 8 hm hB15 ?_))
  show wpStill P _ w.drew (fun a' => wpList P _ _ [o15_8] a' w.drew) [o15_0, o15_1, o15_2, o15_3, o15_4, o15_5, o15_6, o15_7] b3
  refine ca h15_0 (v := .slice (some ⟨k, off, none⟩) (xs.length + ys.length) (cap)) (fun _ => by rw [bM]; simp [aC, aB, al, hsz, e0, e1, e2, e7, e8]) ?_
  refine ca h15_1 (v := .int .i64 (i : Int)) (fun _ => by rw [bM]; simp [aC, aB, al, hsz, e0, e1, e2, e7, e8]) ?_
  refine ca h15_2 (v := .int .i64 (ys.length : Int)) (fun _ => by rw [bM]; simp [aC, aB, al, hsz, e0, e1, e2, e7, e8]) ?_
  refine ca h15_3 (v := .int .i64 ((i : Int) + (ys.length : Int))) (fun _ => qu (by simp [aC, aB, al, hsz, e0, e1, e2, e7, e8]) (by simp [aC, aB, al, hsz, e0, e1, e2, e7, e8]) (by constructor <;> omega)) ?_
  refine ca h15_4 (v := .slice (some ⟨k, off + (i + ys.length) * n, none⟩) (xs.length + ys.length - (i + ys.length)) (cap - (i + ys.length))) (fun _ => by rw [fS (k := k) (off := off) (len := xs.length + ys.length) (cap := cap) (i := (i : Int) + (ys.length : Int)) hT hn0 (by simp [aC, aB, al, hsz, e0, e1, e2, e7, e8]) (by simp [aC, aB, al, hsz, e0, e1, e2, e7, e8]) (by omega) (by omega), hce]; rw [show ((i : Int) + (ys.length : Int)).toNat = i + ys.length by omega, if_neg (by omega)]) ?_
  refine ca h15_5 (v := .slice (some ⟨k, off, none⟩) (xs.length + ys.length) (cap)) (fun _ => by rw [bM]; simp [aC, aB, al, hsz, e0, e1, e2, e7, e8]) ?_
  refine ca h15_6 (v := .int .i64 (i : Int)) (fun _ => by rw [bM]; simp [aC, aB, al, hsz, e0, e1, e2, e7, e8]) ?_
  refine ca h15_7 (v := .slice (some ⟨k, off + i * n, none⟩) (xs.length + ys.length - i) (cap - i)) (fun _ => by rw [fS (k := k) (off := off) (len := xs.length + ys.length) (cap := cap) (i := (i : Int)) hT hn0 (by simp [aC, aB, al, hsz, e0, e1, e2, e7, e8]) (by simp [aC, aB, al, hsz, e0, e1, e2, e7, e8]) (by omega) (by omega), hce]; rw [show ((i : Int)).toNat = i by omega, if_neg (by omega)]) ?_
  generalize hA : (((((((b3.put (some 69) (.slice (some ⟨k, off, none⟩) (xs.length + ys.length) (cap))).put (some 70) (.int .i64 (i : Int))).put (some 71) (.int .i64 (ys.length : Int))).put (some 72) (.int .i64 ((i : Int) + (ys.length : Int)))).put (some 73) (.slice (some ⟨k, off + (i + ys.length) * n, none⟩) (xs.length + ys.length - (i + ys.length)) (cap - (i + ys.length)))).put (some 74) (.slice (some ⟨k, off, none⟩) (xs.length + ys.length) (cap))).put (some 75) (.int .i64 (i : Int))).put (some 76) (.slice (some ⟨k, off + i * n, none⟩) (xs.length + ys.length - i) (cap - i)) = b4
  have e0' : b4.eval (.tmp 0) = .slice (some ⟨k, off, none⟩) (xs.length + ys.length) (cap) := by subst hA; simp [aC, aB, al, hsz, e0, e1, e2, e7, e8]
  have e1' : b4.eval (.tmp 1) = .int .i64 (i : Int) := by subst hA; simp [aC, aB, al, hsz, e0, e1, e2, e7, e8]
  have e2' : b4.eval (.tmp 2) = .slice (some ⟨kv, ov, none⟩) (ys.length) (cv) := by subst hA; simp [aC, aB, al, hsz, e0, e1, e2, e7, e8]
  have e7' : b4.eval (.tmp 7) = .int .i64 (ys.length : Int) := by subst hA; simp [aC, aB, al, hsz, e0, e1, e2, e7, e8]
  have e8' : b4.eval (.tmp 8) = .int .i64 (xs.length : Int) := by subst hA; simp [aC, aB, al, hsz, e0, e1, e2, e7, e8]
  have n73' : b4.eval (.tmp 73) = .slice (some ⟨k, off + (i + ys.length) * n, none⟩) (xs.length + ys.length - (i + ys.length)) (cap - (i + ys.length)) := by subst hA; simp [aC, aB, al, hsz, e0, e1, e2, e7, e8]
  have n76' : b4.eval (.tmp 76) = .slice (some ⟨k, off + i * n, none⟩) (xs.length + ys.length - i) (cap - i) := by subst hA; simp [aC, aB, al, hsz, e0, e1, e2, e7, e8]
  have hsz' : b4.tmps.size = 95 := by subst hA; simp [al, hsz, e0, e1, e2, e7, e8]
  have hdef' : b4.defers = [] := by subst hA; simpa [bZ] using hdef
  clear hA hsz hdef e0 e1 e2 e7 e8
  have e0 := e0'
  have e1 := e1'
  have e2 := e2'
  have e7 := e7'
  have e8 := e8'
  have n73 := n73'
  have n76 := n76'
  have hsz := hsz'
  have hdef := hdef'
  clear hsz' hdef' e0' e1' e2' e7' e8' n73' n76'
  have hbd : w.drew.heap[k]? = some (.cells c T0 (0, 0)) := hb
  have hcapM : (xs.length + ys.length) * n ≤ cap * n := Nat.mul_le_mul_right _ hroomy
  rw [Nat.add_mul] at hcapM
  have him : (i + ys.length) * n = i * n + ys.length * n := Nat.add_mul _ _ _
  have htl : (c.extract (off + i * n) (off + i * n + (xs.length - i) * n)).size = (xs.length - i) * n := by simp; omega
  have hone1 : ∀ v ∈ (c.extract (off + i * n) (off + i * n + (xs.length - i) * n)).toList, v.oneCell' = true := by
   have := flx.one
   intro v hv
   refine this v ?_
   simp only [Array.mem_toList_iff, Array.mem_extract_iff_getElem] at hv ⊢
   obtain ⟨q, hq1, rfl⟩ := hv
   exact ⟨i * n + q, by omega, by congr 1; omega⟩
  obtain ⟨w1, q1, q2, q3, c1, q4, q5, q6⟩ := bx (P := P) k (off + (i + ys.length) * n) T0 (c.extract (off + i * n) (off + i * n + (xs.length - i) * n)).toList 0 c w.drew hbd (by simp only [Array.length_toList, htl]; omega) hone1
  have osw1 := bT (P := P) k (off + (i + ys.length) * n) T0 (c.extract (off + i * n) (off + i * n + (xs.length - i) * n)).toList 0 c w.drew w1 hbd (by simp only [Array.length_toList, htl]; omega) hone1 q1
  refine aM h15_8 (w' := w1) (v := goInt ((xs.length - i : Nat) : Int).toNat) (fun _ => ?_) ?_
  ·rw [Int.toNat_natCast]
   refine oB (m := xs.length + ys.length - i) (cs := c.extract (off + i * n) (off + i * n + (xs.length - i) * n)) hT hce (by omega) n73 (by rw [n76]; rfl) (by rw [show xs.length + ys.length - (i + ys.length) = xs.length - i by omega]; exact Nat.min_eq_right (by omega)) ?_ q1
   rw [n76]
   simp only [Builtin.firstCells]
   exact fY (P := P) hbd (by omega)
  generalize hA : b4.put (some 77) (goInt ((xs.length - i : Nat) : Int).toNat) = b5
  have e0' : b5.eval (.tmp 0) = .slice (some ⟨k, off, none⟩) (xs.length + ys.length) (cap) := by subst hA; simp [aC, aB, al, hsz, e0, e1, e2, e7, e8]
  have e1' : b5.eval (.tmp 1) = .int .i64 (i : Int) := by subst hA; simp [aC, aB, al, hsz, e0, e1, e2, e7, e8]
  have e2' : b5.eval (.tmp 2) = .slice (some ⟨kv, ov, none⟩) (ys.length) (cv) := by subst hA; simp [aC, aB, al, hsz, e0, e1, e2, e7, e8]
  have e7' : b5.eval (.tmp 7) = .int .i64 (ys.length : Int) := by subst hA; simp [aC, aB, al, hsz, e0, e1, e2, e7, e8]
  have e8' : b5.eval (.tmp 8) = .int .i64 (xs.length : Int) := by subst hA; simp [aC, aB, al, hsz, e0, e1, e2, e7, e8]
  have hsz' : b5.tmps.size = 95 := by subst hA; simp [al, hsz]
  have hdef' : b5.defers = [] := by subst hA; simpa [bZ] using hdef
  clear hA hsz hdef e0 e1 e2 e7 e8
  have e0 := e0'
  have e1 := e1'
  have e2 := e2'
  have e7 := e7'
  have e8 := e8'
  have hsz := hsz'
  have hdef := hdef'
  refine wp_seq (wp_region_lit (l := [o16_0, o16_1, o16_2, o16_3, o16_4]) ?_)
  refine aM h16_0 (w' := w1) (v := .slice (some ⟨k, off, none⟩) (xs.length + ys.length) (cap)) (fun _ => by rw [bM]; simp [aC, aB, al, hsz, e0, e1, e2, e7, e8]) ?_
  refine aM h16_1 (w' := w1) (v := .int .i64 (i : Int)) (fun _ => by rw [bM]; simp [aC, aB, al, hsz, e0, e1, e2, e7, e8]) ?_
  refine aM h16_2 (w' := w1) (v := .slice (some ⟨k, off + i * n, none⟩) (xs.length + ys.length - i) (cap - i)) (fun _ => by rw [fS (k := k) (off := off) (len := xs.length + ys.length) (cap := cap) (i := (i : Int)) hT hn0 (by simp [aC, aB, al, hsz, e0, e1, e2, e7, e8]) (by simp [aC, aB, al, hsz, e0, e1, e2, e7, e8]) (by omega) (by omega), hce]; rw [show ((i : Int)).toNat = i by omega, if_neg (by omega)]) ?_
  refine aM h16_3 (w' := w1) (v := .slice (some ⟨kv, ov, none⟩) (ys.length) (cv)) (fun _ => by rw [bM]; simp [aC, aB, al, hsz, e0, e1, e2, e7, e8]) ?_
  have hb2' : w1.heap[kv]? = some (.cells av Tv fz) := by rw [q3 kv hne]; exact hb2
  obtain ⟨w2, p1, p2, p3, c2, p4, p5, p6⟩ := bx (P := P) k (off + i * n) T0 (av.extract ov (ov + ys.length * n)).toList 0 c1 w1 q4 (by simp only [Array.length_toList, hf2]; omega) fly.one
  have osw2 := bT (P := P) k (off + i * n) T0 (av.extract ov (ov + ys.length * n)).toList 0 c1 w1 w2 q4 (by simp only [Array.length_toList, hf2]; omega) fly.one p1
  refine aM h16_4 (w' := w2) (v := goInt ys.length) (fun _ => ?_) ?_
  ·refine oB (m := ys.length) (dl := xs.length + ys.length - i) (dc := cap - i) (off := off + i * n) (k := k) (cs := av.extract ov (ov + ys.length * n)) hT hce (by omega) (by simp [aC, aB, al, hsz]) (by simp [aC, aB, al, hsz, Builtin.lenOf]) (Nat.min_eq_left (by omega)) ?_ p1
   simp only [aB, al, hsz, Nat.reduceLT, Builtin.firstCells]
   exact fY (P := P) hb2' hav
  refine wp_seq (wp_region_lit (l := [o17_0, o17_1]) ?_)
  refine aM h17_0 (w' := w2) (v := .slice (some ⟨k, off, none⟩) (xs.length + ys.length) (cap)) (fun _ => by rw [bM]; simp [aC, aB, al, hsz, e0, e1, e2, e7, e8]) ?_
  refine aM h17_1 (w' := w2) (v := .slice (some ⟨k, off, none⟩) (xs.length + ys.length) (cap)) (fun _ => by rw [lR]; simp [aC, aB, al, hsz, e0, e1, e2, e7, e8]) ?_
  refine wp_ret ?_
  have hk2 : ∀ o, o ≠ .lst (.slot 0) → az o g w (g.ren (rnL (.slot 0) (.slot 6))) w2 := fun o ho k' b' h1 h2 => by
   have hkk : k' ≠ k := by rintro rfl; exact ho (h1.symm.trans hk)
   exact ⟨by simp only [Gh.ren, h1]; exact cu ho, by rw [p3 k' hkk, q3 k' hkk]; exact h2⟩
  refine fin _ w2 (g.ren (rnL (.slot 0) (.slot 6))) (.slice (some ⟨k, off, none⟩) (xs.length + ys.length) cap) (by simp [al, hsz]) (by simpa [bZ] using hdef) (by simp [aB, al, hsz]) ?_ hk2 rfl (by rw [p2, q2]; exact Nat.le_refl _) (osw1.trans osw2)
  rw [← hzl]
  refine bA.win flz p4 (by simp [Gh.ren, hk, l7]) (by omega) (by rw [p5, q5]; exact hzz) (fun q hq => ?_) (hk2 _ (by simp)) (fun _ _ h => h)
  rw [hflat q hq]
  rw [hzl, Nat.add_mul] at hq
  rw [p6, q6]
  simp only [Array.length_toList, hf2, htl]
  by_cases z1 : q < i * n
  ·rw [if_neg (by omega), if_neg (by omega), if_pos z1]
  ·by_cases z2 : q < i * n + ys.length * n
   ·rw [if_pos (by omega), if_neg z1, if_pos z2, Array.getElem?_toList, Array.getElem?_extract, if_pos (by omega)]
    congr 1; omega
   ·rw [if_neg (by omega), if_pos (by omega), if_neg z1, if_neg z2, Array.getElem?_toList, Array.getElem?_extract, if_pos (by omega)]
    congr 1; omega
 ·rw [show decide ((xs.length : Int) + (ys.length : Int) > (cap : Int)) = true by simp; omega]
  refine wp_seq (wp_region_lit (l := [o9_0, o9_1, o9_2, o9_3, o9_4, o9_5, o9_6, o9_7, o9_8, o9_9]) ?_)
  refine aM h9_0 (w' := w) (v := .slice (some ⟨k, off, none⟩) (xs.length) (cap)) (fun _ => by rw [bM]; simp [aC, aB, al, hsz, e0, e1, e2, e7, e8]) ?_
  refine aM h9_1 (w' := w) (v := .int .i64 (i : Int)) (fun _ => by rw [bM]; simp [aC, aB, al, hsz, e0, e1, e2, e7, e8]) ?_
  refine aM h9_2 (w' := w) (v := .slice (some ⟨k, off, none⟩) (i) (cap)) (fun _ => by rw [qt (k := k) (off := off) (len := xs.length) (cap := cap) (i := (i : Int)) hT hn0 (by simp [aC, aB, al, hsz, e0, e1, e2, e7, e8]) (by simp [aC, aB, al, hsz, e0, e1, e2, e7, e8]) (by omega) (by omega)]; rw [show ((i : Int)).toNat = i by omega]) ?_
  refine aM h9_3 (w' := w) (v := .int .i64 (xs.length : Int)) (fun _ => by rw [bM]; simp [aC, aB, al, hsz, e0, e1, e2, e7, e8]) ?_
  refine aM h9_4 (w' := w) (v := .int .i64 (ys.length : Int)) (fun _ => by rw [bM]; simp [aC, aB, al, hsz, e0, e1, e2, e7, e8]) ?_
  refine aM h9_5 (w' := w) (v := .int .i64 ((xs.length : Int) + (ys.length : Int))) (fun _ => qu (by simp [aC, aB, al, hsz, e0, e1, e2, e7, e8]) (by simp [aC, aB, al, hsz, e0, e1, e2, e7, e8]) (by constructor <;> omega)) ?_
  refine aM h9_6 (w' := w) (v := .int .i64 (i : Int)) (fun _ => by rw [bM]; simp [aC, aB, al, hsz, e0, e1, e2, e7, e8]) ?_
  refine aM h9_7 (w' := w) (v := .int .i64 ((xs.length + ys.length - i : Nat) : Int)) (fun _ => by rw [Ba (p := (xs.length : Int) + (ys.length : Int)) (q := (i : Int)) (by simp [aC, aB, al, hsz, e0, e1, e2, e7, e8]) (by simp [aC, aB, al, hsz, e0, e1, e2, e7, e8]) (by constructor <;> omega), show (xs.length : Int) + (ys.length : Int) - (i : Int) = ((xs.length + ys.length - i : Nat) : Int) by omega]) ?_
  generalize hA : (((((((b.put (some 32) (.slice (some ⟨k, off, none⟩) (xs.length) (cap))).put (some 33) (.int .i64 (i : Int))).put (some 34) (.slice (some ⟨k, off, none⟩) (i) (cap))).put (some 35) (.int .i64 (xs.length : Int))).put (some 36) (.int .i64 (ys.length : Int))).put (some 37) (.int .i64 ((xs.length : Int) + (ys.length : Int)))).put (some 38) (.int .i64 (i : Int))).put (some 39) (.int .i64 ((xs.length + ys.length - i : Nat) : Int)) = b2
  have e0' : b2.eval (.tmp 0) = .slice (some ⟨k, off, none⟩) (xs.length) (cap) := by subst hA; simp [aC, aB, al, hsz, e0, e1, e2, e7, e8]
  have e1' : b2.eval (.tmp 1) = .int .i64 (i : Int) := by subst hA; simp [aC, aB, al, hsz, e0, e1, e2, e7, e8]
  have e2' : b2.eval (.tmp 2) = .slice (some ⟨kv, ov, none⟩) (ys.length) (cv) := by subst hA; simp [aC, aB, al, hsz, e0, e1, e2, e7, e8]
  have e7' : b2.eval (.tmp 7) = .int .i64 (ys.length : Int) := by subst hA; simp [aC, aB, al, hsz, e0, e1, e2, e7, e8]
  have e8' : b2.eval (.tmp 8) = .int .i64 (xs.length : Int) := by subst hA; simp [aC, aB, al, hsz, e0, e1, e2, e7, e8]
  have n34' : b2.eval (.tmp 34) = .slice (some ⟨k, off, none⟩) (i) (cap) := by subst hA; simp [aC, aB, al, hsz, e0, e1, e2, e7, e8]
  have n39' : b2.eval (.tmp 39) = .int .i64 ((xs.length + ys.length - i : Nat) : Int) := by subst hA; simp [aC, aB, al, hsz, e0, e1, e2, e7, e8]
  have hsz' : b2.tmps.size = 95 := by subst hA; simp [al, hsz, e0, e1, e2, e7, e8]
  have hdef' : b2.defers = [] := by subst hA; simpa [bZ] using hdef
  clear hA hsz hdef e0 e1 e2 e7 e8
  have e0 := e0'
  have e1 := e1'
  have e2 := e2'
  have e7 := e7'
  have e8 := e8'
  have n34 := n34'
  have n39 := n39'
  have hsz := hsz'
  have hdef := hdef'
  clear hsz' hdef' e0' e1' e2' e7' e8' n34' n39'
  have hbd : w.drew.heap[k]? = some (.cells c T0 (0, 0)) := hb
  have hneed : i + (xs.length + ys.length - i) = xs.length + ys.length := by omega
  have hby2 : (xs.length + ys.length) * ti.bytes ≤ 140737488355328 := Nat.le_trans (Nat.mul_le_mul hroom hby) (by decide)
  obtain ⟨gc, hgc, happ⟩ := ru (P := P) (a := b2) (w := w) (T := T) (I := I) (e := e) (x := .tmp 34) (y := .tmp 39) (m := xs.length + ys.length - i) (sLen := i) (sCap := cap) (base := some ⟨k, off, none⟩) (z := z) (ti := ti) (olds := c.extract off (off + i * n)) n34 n39 hT hI hi hz (by omega) (by
   rw [hsize]
   simp only [Builtin.firstCells]
   exact fY (P := P) hbd (by omega)) (by omega) (by omega) (by unfold maxLen; omega) (by rw [hneed]; exact hby2)
  rw [hneed] at hgc happ
  generalize hC : c.extract off (off + i * n) ++ Builtin.zeroCells z.cells (xs.length + ys.length - i) ++ Builtin.zeroCells z.cells (gc - (xs.length + ys.length)) = C0 at happ
  have hC0 : C0.size = gc * n := by
   rw [← hC]
   simp only [Array.size_append, size_zeroCells, hzn, Array.size_extract]
   have h1 : i * n + ((xs.length + ys.length - i) * n + (gc - (xs.length + ys.length)) * n) = gc * n := by
    rw [← Nat.add_mul, ← Nat.add_mul]; congr 1; omega
   omega
  have hCl : ∀ q, q < i * n → C0[q]? = c[off + q]? := fun q hq => by
   rw [← hC, Array.append_assoc, Array.getElem?_append_left (by simp; omega), Array.getElem?_extract, if_pos (by omega)]
  clear hC
  have hK1 : (w.drew.alloc (.cells C0 e)).heap[w.heap.size]? = some (.cells C0 e (0, 0)) := heap_alloc w.drew _
  have hold : ∀ (k' : Nat) (b' : Obj), w.heap[k']? = some b' → k' ≠ w.heap.size ∧ (w.drew.alloc (.cells C0 e)).heap[k']? = some b' := fun k' b' h => ⟨by have := gg h; omega, (az.alloc (o' := g.ow k') (g := g) (w := w.drew) (o := .cells C0 e) (t := .free) k' b' rfl h).2⟩
  generalize hW : w.drew.alloc (.cells C0 e) = w1 at happ hK1 hold
  have hw1s : w.heap.size ≤ w1.heap.size := by rw [← hW]; simp
  have hos1 : cq w w1 := by rw [← hW]; exact ⟨rfl, rfl⟩
  generalize hKK : w.heap.size = K at happ hK1 hold hw1s
  refine aM h9_8 (w' := w1) (v := .slice (some ⟨K, 0, none⟩) (xs.length + ys.length) (gc)) (fun ty => happ o9_8 ty) ?_
  refine aM h9_9 (w' := w1) (v := .slice (some ⟨K, 0, none⟩) (xs.length + ys.length) (gc)) (fun _ => by rw [lR]; simp [aC, aB, al, hsz, e0, e1, e2, e7, e8]) ?_
  generalize hA : (b2.put (some 40) (.slice (some ⟨K, 0, none⟩) (xs.length + ys.length) (gc))).put (some 9) (.slice (some ⟨K, 0, none⟩) (xs.length + ys.length) (gc)) = b3
  have e0' : b3.eval (.tmp 0) = .slice (some ⟨k, off, none⟩) (xs.length) (cap) := by subst hA; simp [aC, aB, al, hsz, e0, e1, e2, e7, e8]
  have e1' : b3.eval (.tmp 1) = .int .i64 (i : Int) := by subst hA; simp [aC, aB, al, hsz, e0, e1, e2, e7, e8]
  have e2' : b3.eval (.tmp 2) = .slice (some ⟨kv, ov, none⟩) (ys.length) (cv) := by subst hA; simp [aC, aB, al, hsz, e0, e1, e2, e7, e8]
  have e7' : b3.eval (.tmp 7) = .int .i64 (ys.length : Int) := by subst hA; simp [aC, aB, al, hsz, e0, e1, e2, e7, e8]
  have e8' : b3.eval (.tmp 8) = .int .i64 (xs.length : Int) := by subst hA; simp [aC, aB, al, hsz, e0, e1, e2, e7, e8]
  have e9' : b3.eval (.tmp 9) = .slice (some ⟨K, 0, none⟩) (xs.length + ys.length) (gc) := by subst hA; simp [aC, aB, al, hsz, e0, e1, e2, e7, e8]
  have hsz' : b3.tmps.size = 95 := by subst hA; simp [al, hsz, e0, e1, e2, e7, e8]
  have hdef' : b3.defers = [] := by subst hA; simpa [bZ] using hdef
  clear hA hsz hdef e0 e1 e2 e7 e8 n34 n39 happ
  have e0 := e0'
  have e1 := e1'
  have e2 := e2'
  have e7 := e7'
  have e8 := e8'
  have e9 := e9'
  have hsz := hsz'
  have hdef := hdef'
  clear hsz' hdef' e0' e1' e2' e7' e8' e9'
  refine wp_seq (wp_region_lit (l := [o10_0, o10_1, o10_2, o10_3, o10_4]) ?_)
  refine aM h10_0 (w' := w1) (v := .slice (some ⟨K, 0, none⟩) (xs.length + ys.length) (gc)) (fun _ => by rw [bM]; simp [aC, aB, al, hsz, e0, e1, e2, e7, e8, e9]) ?_
  refine aM h10_1 (w' := w1) (v := .int .i64 (i : Int)) (fun _ => by rw [bM]; simp [aC, aB, al, hsz, e0, e1, e2, e7, e8, e9]) ?_
  refine aM h10_2 (w' := w1) (v := .slice (some ⟨K, 0 + i * n, none⟩) (xs.length + ys.length - i) (gc - i)) (fun _ => by rw [fS (k := K) (off := 0) (len := xs.length + ys.length) (cap := gc) (i := (i : Int)) hT hn0 (by simp [aC, aB, al, hsz, e0, e1, e2, e7, e8, e9]) (by simp [aC, aB, al, hsz, e0, e1, e2, e7, e8, e9]) (by omega) (by omega), hce]; rw [show ((i : Int)).toNat = i by omega, if_neg (by omega)]) ?_
  refine aM h10_3 (w' := w1) (v := .slice (some ⟨kv, ov, none⟩) (ys.length) (cv)) (fun _ => by rw [bM]; simp [aC, aB, al, hsz, e0, e1, e2, e7, e8, e9]) ?_
  have hb2' : w1.heap[kv]? = some (.cells av Tv fz) := (hold kv _ hb2).2
  have hKkv : kv ≠ K := (hold kv _ hb2).1
  have hKk : k ≠ K := (hold k _ hb).1
  have hgcn : (xs.length + ys.length) * n ≤ gc * n := Nat.mul_le_mul_right _ hgc
  rw [Nat.add_mul] at hgcn
  obtain ⟨w2, p1, p2, p3, c2, p4, p5, p6⟩ := bx (P := P) K (0 + i * n) e (av.extract ov (ov + ys.length * n)).toList 0 C0 w1 hK1 (by simp only [Array.length_toList, hf2]; omega) fly.one
  have osw2 := bT (P := P) K (0 + i * n) e (av.extract ov (ov + ys.length * n)).toList 0 C0 w1 w2 hK1 (by simp only [Array.length_toList, hf2]; omega) fly.one p1
  refine aM h10_4 (w' := w2) (v := goInt ys.length) (fun _ => ?_) ?_
  ·refine oB (m := ys.length) (dl := xs.length + ys.length - i) (dc := gc - i) (off := 0 + i * n) (k := K) (cs := av.extract ov (ov + ys.length * n)) hT hce (by omega) (by simp [aC, aB, al, hsz]) (by simp [aC, aB, al, hsz, Builtin.lenOf]) (Nat.min_eq_left (by omega)) ?_ p1
   simp only [aB, al, hsz, Nat.reduceLT, Builtin.firstCells]
   exact fY (P := P) hb2' hav
  generalize hA : ((((b3.put (some 41) (.slice (some ⟨K, 0, none⟩) (xs.length + ys.length) (gc))).put (some 42) (.int .i64 (i : Int))).put (some 43) (.slice (some ⟨K, 0 + i * n, none⟩) (xs.length + ys.length - i) (gc - i))).put (some 44) (.slice (some ⟨kv, ov, none⟩) (ys.length) (cv))).put (some 45) (goInt ys.length) = b4
  have e0' : b4.eval (.tmp 0) = .slice (some ⟨k, off, none⟩) (xs.length) (cap) := by subst hA; simp [aC, aB, al, hsz, e0, e1, e2, e7, e8, e9]
  have e1' : b4.eval (.tmp 1) = .int .i64 (i : Int) := by subst hA; simp [aC, aB, al, hsz, e0, e1, e2, e7, e8, e9]
  have e2' : b4.eval (.tmp 2) = .slice (some ⟨kv, ov, none⟩) (ys.length) (cv) := by subst hA; simp [aC, aB, al, hsz, e0, e1, e2, e7, e8, e9]
  have e7' : b4.eval (.tmp 7) = .int .i64 (ys.length : Int) := by subst hA; simp [aC, aB, al, hsz, e0, e1, e2, e7, e8, e9]
  have e8' : b4.eval (.tmp 8) = .int .i64 (xs.length : Int) := by subst hA; simp [aC, aB, al, hsz, e0, e1, e2, e7, e8, e9]
  have e9' : b4.eval (.tmp 9) = .slice (some ⟨K, 0, none⟩) (xs.length + ys.length) (gc) := by subst hA; simp [aC, aB, al, hsz, e0, e1, e2, e7, e8, e9]
  have hsz' : b4.tmps.size = 95 := by subst hA; simp [al, hsz, e0, e1, e2, e7, e8, e9]
  have hdef' : b4.defers = [] := by subst hA; simpa [bZ] using hdef
  clear hA hsz hdef e0 e1 e2 e7 e8 e9
  have e0 := e0'
  have e1 := e1'
  have e2 := e2'
  have e7 := e7'
  have e8 := e8'
  have e9 := e9'
  have hsz := hsz'
  have hdef := hdef'
  clear hsz' hdef' e0' e1' e2' e7' e8' e9'
  refine wp_seq (wp_region_still_tail (l := [o11_0, o11_1, o11_2, o11_3, o11_4, o11_5, o11_6, o11_7, o11_8]) 8 hm hB11 ?_)
  show wpStill P _ w2.drew (fun a' => wpList P _ _ [o11_8] a' w2.drew) [o11_0, o11_1, o11_2, o11_3, o11_4, o11_5, o11_6, o11_7] b4
  refine ca h11_0 (v := .slice (some ⟨K, 0, none⟩) (xs.length + ys.length) (gc)) (fun _ => by rw [bM]; simp [aC, aB, al, hsz, e0, e1, e2, e7, e8, e9]) ?_
  refine ca h11_1 (v := .int .i64 (i : Int)) (fun _ => by rw [bM]; simp [aC, aB, al, hsz, e0, e1, e2, e7, e8, e9]) ?_
  refine ca h11_2 (v := .int .i64 (ys.length : Int)) (fun _ => by rw [bM]; simp [aC, aB, al, hsz, e0, e1, e2, e7, e8, e9]) ?_
  refine ca h11_3 (v := .int .i64 ((i : Int) + (ys.length : Int))) (fun _ => qu (by simp [aC, aB, al, hsz, e0, e1, e2, e7, e8, e9]) (by simp [aC, aB, al, hsz, e0, e1, e2, e7, e8, e9]) (by constructor <;> omega)) ?_
  refine ca h11_4 (v := .slice (some ⟨K, 0 + (i + ys.length) * n, none⟩) (xs.length + ys.length - (i + ys.length)) (gc - (i + ys.length))) (fun _ => by rw [fS (k := K) (off := 0) (len := xs.length + ys.length) (cap := gc) (i := (i : Int) + (ys.length : Int)) hT hn0 (by simp [aC, aB, al, hsz, e0, e1, e2, e7, e8, e9]) (by simp [aC, aB, al, hsz, e0, e1, e2, e7, e8, e9]) (by omega) (by omega), hce]; rw [show ((i : Int) + (ys.length : Int)).toNat = i + ys.length by omega, if_neg (by omega)]) ?_
  refine ca h11_5 (v := .slice (some ⟨k, off, none⟩) (xs.length) (cap)) (fun _ => by rw [bM]; simp [aC, aB, al, hsz, e0, e1, e2, e7, e8, e9]) ?_
  refine ca h11_6 (v := .int .i64 (i : Int)) (fun _ => by rw [bM]; simp [aC, aB, al, hsz, e0, e1, e2, e7, e8, e9]) ?_
  refine ca h11_7 (v := .slice (some ⟨k, off + i * n, none⟩) (xs.length - i) (cap - i)) (fun _ => by rw [fS (k := k) (off := off) (len := xs.length) (cap := cap) (i := (i : Int)) hT hn0 (by simp [aC, aB, al, hsz, e0, e1, e2, e7, e8, e9]) (by simp [aC, aB, al, hsz, e0, e1, e2, e7, e8, e9]) (by omega) (by omega), hce]; rw [show ((i : Int)).toNat = i by omega, if_neg (by omega)]) ?_
  generalize hA : (((((((b4.put (some 46) (.slice (some ⟨K, 0, none⟩) (xs.length + ys.length) (gc))).put (some 47) (.int .i64 (i : Int))).put (some 48) (.int .i64 (ys.length : Int))).put (some 49) (.int .i64 ((i : Int) + (ys.length : Int)))).put (some 50) (.slice (some ⟨K, 0 + (i + ys.length) * n, none⟩) (xs.length + ys.length - (i + ys.length)) (gc - (i + ys.length)))).put (some 51) (.slice (some ⟨k, off, none⟩) (xs.length) (cap))).put (some 52) (.int .i64 (i : Int))).put (some 53) (.slice (some ⟨k, off + i * n, none⟩) (xs.length - i) (cap - i)) = b5
  have e0' : b5.eval (.tmp 0) = .slice (some ⟨k, off, none⟩) (xs.length) (cap) := by subst hA; simp [aC, aB, al, hsz, e0, e1, e2, e7, e8, e9]
  have e1' : b5.eval (.tmp 1) = .int .i64 (i : Int) := by subst hA; simp [aC, aB, al, hsz, e0, e1, e2, e7, e8, e9]
  have e2' : b5.eval (.tmp 2) = .slice (some ⟨kv, ov, none⟩) (ys.length) (cv) := by subst hA; simp [aC, aB, al, hsz, e0, e1, e2, e7, e8, e9]
  have e7' : b5.eval (.tmp 7) = .int .i64 (ys.length : Int) := by subst hA; simp [aC, aB, al, hsz, e0, e1, e2, e7, e8, e9]
  have e8' : b5.eval (.tmp 8) = .int .i64 (xs.length : Int) := by subst hA; simp [aC, aB, al, hsz, e0, e1, e2, e7, e8, e9]
  have e9' : b5.eval (.tmp 9) = .slice (some ⟨K, 0, none⟩) (xs.length + ys.length) (gc) := by subst hA; simp [aC, aB, al, hsz, e0, e1, e2, e7, e8, e9]
  have n50' : b5.eval (.tmp 50) = .slice (some ⟨K, 0 + (i + ys.length) * n, none⟩) (xs.length + ys.length - (i + ys.length)) (gc - (i + ys.length)) := by subst hA; simp [aC, aB, al, hsz, e0, e1, e2, e7, e8, e9]
  have n53' : b5.eval (.tmp 53) = .slice (some ⟨k, off + i * n, none⟩) (xs.length - i) (cap - i) := by subst hA; simp [aC, aB, al, hsz, e0, e1, e2, e7, e8, e9]
  have hsz' : b5.tmps.size = 95 := by subst hA; simp [al, hsz, e0, e1, e2, e7, e8, e9]
  have hdef' : b5.defers = [] := by subst hA; simpa [bZ] using hdef
  clear hA hsz hdef e0 e1 e2 e7 e8 e9
  have e0 := e0'
  have e1 := e1'
  have e2 := e2'
  have e7 := e7'
  have e8 := e8'
  have e9 := e9'
  have n50 := n50'
  have n53 := n53'
  have hsz := hsz'
  have hdef := hdef'
  clear hsz' hdef' e0' e1' e2' e7' e8' e9' n50' n53'
  have hbd2 : w2.drew.heap[k]? = some (.cells c T0 (0, 0)) := by
   show w2.heap[k]? = _
   rw [p3 k hKk]; exact (hold k _ hb).2
  have him : (i + ys.length) * n = i * n + ys.length * n := Nat.add_mul _ _ _
  have htl : (c.extract (off + i * n) (off + i * n + (xs.length - i) * n)).size = (xs.length - i) * n := by simp; omega
  have hone1 : ∀ v ∈ (c.extract (off + i * n) (off + i * n + (xs.length - i) * n)).toList, v.oneCell' = true := by
   have := flx.one
   intro v hv
   refine this v ?_
   simp only [Array.mem_toList_iff, Array.mem_extract_iff_getElem] at hv ⊢
   obtain ⟨q, hq1, rfl⟩ := hv
   exact ⟨i * n + q, by omega, by congr 1; omega⟩
  obtain ⟨w3, q1, q2, q3, c3, q4, q5, q6⟩ := bx (P := P) K (0 + (i + ys.length) * n) e (c.extract (off + i * n) (off + i * n + (xs.length - i) * n)).toList 0 c2 w2.drew p4 (by simp only [Array.length_toList, htl]; omega) hone1
  have osw3 := bT (P := P) K (0 + (i + ys.length) * n) e (c.extract (off + i * n) (off + i * n + (xs.length - i) * n)).toList 0 c2 w2.drew w3 p4 (by simp only [Array.length_toList, htl]; omega) hone1 q1
  refine aM h11_8 (w' := w3) (v := goInt (xs.length - i : Nat)) (fun _ => ?_) ?_
  ·refine oB (m := xs.length - i) (cs := c.extract (off + i * n) (off + i * n + (xs.length - i) * n)) hT hce (by omega) n50 (by rw [n53]; rfl) (by rw [show xs.length + ys.length - (i + ys.length) = xs.length - i by omega]; exact Nat.min_self _) ?_ q1
   rw [n53]
   simp only [Builtin.firstCells]
   exact fY (P := P) hbd2 (by omega)
  generalize hA : b5.put (some 54) (goInt (xs.length - i : Nat)) = b6
  have e0' : b6.eval (.tmp 0) = .slice (some ⟨k, off, none⟩) (xs.length) (cap) := by subst hA; simp [aC, aB, al, hsz, e0, e1, e2, e7, e8, e9]
  have e1' : b6.eval (.tmp 1) = .int .i64 (i : Int) := by subst hA; simp [aC, aB, al, hsz, e0, e1, e2, e7, e8, e9]
  have e2' : b6.eval (.tmp 2) = .slice (some ⟨kv, ov, none⟩) (ys.length) (cv) := by subst hA; simp [aC, aB, al, hsz, e0, e1, e2, e7, e8, e9]
  have e7' : b6.eval (.tmp 7) = .int .i64 (ys.length : Int) := by subst hA; simp [aC, aB, al, hsz, e0, e1, e2, e7, e8, e9]
  have e8' : b6.eval (.tmp 8) = .int .i64 (xs.length : Int) := by subst hA; simp [aC, aB, al, hsz, e0, e1, e2, e7, e8, e9]
  have e9' : b6.eval (.tmp 9) = .slice (some ⟨K, 0, none⟩) (xs.length + ys.length) (gc) := by subst hA; simp [aC, aB, al, hsz, e0, e1, e2, e7, e8, e9]
  have hsz' : b6.tmps.size = 95 := by subst hA; simp [al, hsz, e0, e1, e2, e7, e8, e9]
  have hdef' : b6.defers = [] := by subst hA; simpa [bZ] using hdef
  clear hA hsz hdef e0 e1 e2 e7 e8 e9 n50 n53
  have e0 := e0'
  have e1 := e1'
  have e2 := e2'
  have e7 := e7'
  have e8 := e8'
  have e9 := e9'
  have hsz := hsz'
  have hdef := hdef'
  clear hsz' hdef' e0' e1' e2' e7' e8' e9'
  refine wp_seq (wp_region_lit (l := [o12_0, o12_1]) ?_)
  refine aM h12_0 (w' := w3) (v := .slice (some ⟨K, 0, none⟩) (xs.length + ys.length) (gc)) (fun _ => by rw [bM]; simp [aC, aB, al, hsz, e0, e1, e2, e7, e8, e9]) ?_
  refine aM h12_1 (w' := w3) (v := .slice (some ⟨K, 0, none⟩) (xs.length + ys.length) (gc)) (fun _ => by rw [lR]; simp [aC, aB, al, hsz, e0, e1, e2, e7, e8, e9]) ?_
  refine wp_ret ?_
  have hk3 : ∀ o, az o g w (g.upd K (.lst (.slot 6))) w3 := fun o k' b' h1 h2 => by
   obtain ⟨hkk, h3⟩ := hold k' b' h2
   refine ⟨by rw [Gh.qx _ _ hkk]; exact h1, ?_⟩
   rw [q3 k' hkk]
   show w2.heap[k']? = _
   rw [p3 k' hkk]; exact h3
  refine fin _ w3 (g.upd K (.lst (.slot 6))) (.slice (some ⟨K, 0, none⟩) (xs.length + ys.length) gc) (by simp [al, hsz]) (by simpa [bZ] using hdef) (by simp [aB, al, hsz]) ?_ (fun o _ => hk3 o) rfl (by rw [q2]; show _ ≤ w2.heap.size; rw [p2, hKK]; exact hw1s) (hos1.trans (osw2.trans osw3))
  rw [← hzl]
  refine bA.win flz q4 (by simp) (by omega) (by rw [q5, p5, hC0]; omega) (fun q hq => ?_) (hk3 _) (fun _ _ h => h)
  rw [hflat q hq]
  rw [hzl, Nat.add_mul] at hq
  rw [q6, p6]
  simp only [Array.length_toList, hf2, htl]
  by_cases z1 : q < i * n
  ·rw [if_neg (by omega), if_neg (by omega), if_pos z1, hCl _ (by omega)]
   congr 1; omega
  ·by_cases z2 : q < i * n + ys.length * n
   ·rw [if_neg (by omega), if_pos (by omega), if_neg z1, if_pos z2, Array.getElem?_toList, Array.getElem?_extract, if_pos (by omega)]
    congr 1; omega
   ·rw [if_pos (by omega), if_neg z1, if_neg z2, Array.getElem?_toList, Array.getElem?_extract, if_pos (by omega)]
    congr 1; omega
end Go.Sh
namespace Go.Sh
theorem SW.BD {P : Program} {α : Type} {enc : α → D} {T I B e : TypeId} {fo : Nat} {ik : IntKind} {ti : TypeInfo} {z : Value} {zd : D} {n : Nat} {xs ys : List α} {i : Int} {H : List ar} {Q : Exit → St → Prop} {Z : Code} {i8 i9 i10 i11 i12 i13 i14 i15 i16 i17 : Nat}
  {o8_0 o8_1 o8_2 o8_3 o8_4 o8_5 o9_0 o9_1 o9_2 o9_3 o9_4 o9_5 o9_6 o9_7 o9_8 o9_9 o10_0 o10_1 o10_2 o10_3 o10_4 o11_0 o11_1 o11_2 o11_3 o11_4 o11_5 o11_6 o11_7 o11_8 o12_0 o12_1 o13_0 o13_1 o13_2 o13_3 o13_4 o13_5 o14_0 o14_1 o14_2 o14_3 o14_4 o14_5 o14_6 o14_7 o15_0 o15_1 o15_2 o15_3 o15_4 o15_5 o15_6 o15_7 o15_8 o16_0 o16_1 o16_2 o16_3 o16_4 o17_0 o17_1 : Oper}
  (hc : (decide (0 ≤ i) && decide (i < xs.length) && decide (0 < ys.length) && decide (xs.length + ys.length ≤ room)) = true)
  (hT : P.underlying T = some (.slice e)) (hI : P.underlying I = some (.int ik)) (hi : P.info? e = some ti) (hz : ti.zero = some z) (hzd : jB z = some zd) (hzn : z.cells.size = n) (hsize : ti.size = n) (hn : 0 < n) (hby : ti.bytes ≤ 65536)
  (hov : ∀ (args : Array Value) (w : World), (callFunc fo args).run P w = ((Extern.SlicesOverlaps.overlaps #[T, T] #[B] args).run P w).andThen fun v w' => .ok (.value v) w')
  (hm : P.follows .mixedOrders = true) (hB11 : Region.lexTailB .any #[o11_0, o11_1, o11_2, o11_3, o11_4, o11_5, o11_6, o11_7, o11_8] 8 = true) (hB15 : Region.lexTailB .any #[o15_0, o15_1, o15_2, o15_3, o15_4, o15_5, o15_6, o15_7, o15_8] 8 = true)
  (h8_0 : aS o8_0 (some 26) (.move (.tmp 8)))
  (h8_1 : aS o8_1 (some 27) (.move (.tmp 7)))
  (h8_2 : aS o8_2 (some 28) (.binOp .add I (.tmp 26) (.tmp 27) I))
  (h8_3 : aS o8_3 (some 29) (.move (.tmp 0)))
  (h8_4 : aS o8_4 (some 30) (.call ⟨.builtin .cap, #[.tmp 29], #[T]⟩))
  (h8_5 : aS o8_5 (some 31) (.binOp .gtr I (.tmp 28) (.tmp 30) I))
  (h9_0 : aS o9_0 (some 32) (.move (.tmp 0)))
  (h9_1 : aS o9_1 (some 33) (.move (.tmp 1)))
  (h9_2 : aS o9_2 (some 34) (.slice T (.tmp 32) none (some (.tmp 33)) none))
  (h9_3 : aS o9_3 (some 35) (.move (.tmp 8)))
  (h9_4 : aS o9_4 (some 36) (.move (.tmp 7)))
  (h9_5 : aS o9_5 (some 37) (.binOp .add I (.tmp 35) (.tmp 36) I))
  (h9_6 : aS o9_6 (some 38) (.move (.tmp 1)))
  (h9_7 : aS o9_7 (some 39) (.binOp .sub I (.tmp 37) (.tmp 38) I))
  (h9_8 : aS o9_8 (some 40) (.call ⟨.builtin .append, #[.tmp 34, .tmp 39], #[T, I]⟩))
  (h9_9 : aS o9_9 (some 9) (.assign (.tmp 40)))
  (h10_0 : aS o10_0 (some 41) (.move (.tmp 9)))
  (h10_1 : aS o10_1 (some 42) (.move (.tmp 1)))
  (h10_2 : aS o10_2 (some 43) (.slice T (.tmp 41) (some (.tmp 42)) none none))
  (h10_3 : aS o10_3 (some 44) (.move (.tmp 2)))
  (h10_4 : aS o10_4 (some 45) (.call ⟨.builtin .copy, #[.tmp 43, .tmp 44], #[T, T]⟩))
  (h11_0 : aS o11_0 (some 46) (.move (.tmp 9)))
  (h11_1 : aS o11_1 (some 47) (.move (.tmp 1)))
  (h11_2 : aS o11_2 (some 48) (.move (.tmp 7)))
  (h11_3 : aS o11_3 (some 49) (.binOp .add I (.tmp 47) (.tmp 48) I))
  (h11_4 : aS o11_4 (some 50) (.slice T (.tmp 46) (some (.tmp 49)) none none))
  (h11_5 : aS o11_5 (some 51) (.move (.tmp 0)))
  (h11_6 : aS o11_6 (some 52) (.move (.tmp 1)))
  (h11_7 : aS o11_7 (some 53) (.slice T (.tmp 51) (some (.tmp 52)) none none))
  (h11_8 : aS o11_8 (some 54) (.call ⟨.builtin .copy, #[.tmp 50, .tmp 53], #[T, T]⟩))
  (h12_0 : aS o12_0 (some 55) (.move (.tmp 9)))
  (h12_1 : aS o12_1 (some 6) (.assign (.tmp 55)))
  (h13_0 : aS o13_0 (some 56) (.move (.tmp 0)))
  (h13_1 : aS o13_1 (some 57) (.move (.tmp 8)))
  (h13_2 : aS o13_2 (some 58) (.move (.tmp 7)))
  (h13_3 : aS o13_3 (some 59) (.binOp .add I (.tmp 57) (.tmp 58) I))
  (h13_4 : aS o13_4 (some 60) (.slice T (.tmp 56) none (some (.tmp 59)) none))
  (h13_5 : aS o13_5 (some 0) (.assign (.tmp 60)))
  (h14_0 : aS o14_0 (some 61) (.move (.tmp 2)))
  (h14_1 : aS o14_1 (some 62) (.move (.tmp 0)))
  (h14_2 : aS o14_2 (some 63) (.move (.tmp 1)))
  (h14_3 : aS o14_3 (some 64) (.move (.tmp 7)))
  (h14_4 : aS o14_4 (some 65) (.binOp .add I (.tmp 63) (.tmp 64) I))
  (h14_5 : aS o14_5 (some 66) (.slice T (.tmp 62) (some (.tmp 65)) none none))
  (h14_6 : aS o14_6 (some 67) (.call ⟨.value (.func fo), #[.tmp 61, .tmp 66], #[T, T]⟩))
  (h14_7 : aS o14_7 (some 68) (.unOp .not B (.tmp 67)))
  (h15_0 : aS o15_0 (some 69) (.move (.tmp 0)))
  (h15_1 : aS o15_1 (some 70) (.move (.tmp 1)))
  (h15_2 : aS o15_2 (some 71) (.move (.tmp 7)))
  (h15_3 : aS o15_3 (some 72) (.binOp .add I (.tmp 70) (.tmp 71) I))
  (h15_4 : aS o15_4 (some 73) (.slice T (.tmp 69) (some (.tmp 72)) none none))
  (h15_5 : aS o15_5 (some 74) (.move (.tmp 0)))
  (h15_6 : aS o15_6 (some 75) (.move (.tmp 1)))
  (h15_7 : aS o15_7 (some 76) (.slice T (.tmp 74) (some (.tmp 75)) none none))
  (h15_8 : aS o15_8 (some 77) (.call ⟨.builtin .copy, #[.tmp 73, .tmp 76], #[T, T]⟩))
  (h16_0 : aS o16_0 (some 78) (.move (.tmp 0)))
  (h16_1 : aS o16_1 (some 79) (.move (.tmp 1)))
  (h16_2 : aS o16_2 (some 80) (.slice T (.tmp 78) (some (.tmp 79)) none none))
  (h16_3 : aS o16_3 (some 81) (.move (.tmp 2)))
  (h16_4 : aS o16_4 (some 82) (.call ⟨.builtin .copy, #[.tmp 80, .tmp 81], #[T, T]⟩))
  (h17_0 : aS o17_0 (some 83) (.move (.tmp 0)))
  (h17_1 : aS o17_1 (some 6) (.assign (.tmp 83)))
  (hq : Q .ret (sp 95 [(6, .own n ((xs.take i.toNat ++ ys ++ xs.drop i.toNat).map enc))] H)) :
  SW P true (.seq (.seq (.region i8 #[o8_0, o8_1, o8_2, o8_3, o8_4, o8_5] false) (.cond (.tmp 31) (.seq (.region i9 #[o9_0, o9_1, o9_2, o9_3, o9_4, o9_5, o9_6, o9_7, o9_8, o9_9] false) (.seq (.region i10 #[o10_0, o10_1, o10_2, o10_3, o10_4] false) (.seq (.region i11 #[o11_0, o11_1, o11_2, o11_3, o11_4, o11_5, o11_6, o11_7, o11_8] true) (.seq (.region i12 #[o12_0, o12_1] false) .ret)))) .skip)) (.seq (.region i13 #[o13_0, o13_1, o13_2, o13_3, o13_4, o13_5] false) (.seq (.seq (.region i14 #[o14_0, o14_1, o14_2, o14_3, o14_4, o14_5, o14_6, o14_7] false) (.cond (.tmp 68) (.seq (.region i15 #[o15_0, o15_1, o15_2, o15_3, o15_4, o15_5, o15_6, o15_7, o15_8] true) (.seq (.region i16 #[o16_0, o16_1, o16_2, o16_3, o16_4] false) (.seq (.region i17 #[o17_0, o17_1] false) .ret))) .skip)) Z))) (sp 95 [(0, .own n (xs.map enc)), (1, vI i), (2, .d (.list n (ys.map enc))), (7, vI ys.length), (8, vI xs.length)] H) Q := by
 have := SW.ins (P := P) (xs := xs.map enc) (ys := ys.map enc) (i := i) (H := H) (Q := Q) (Z := Z) (i8 := i8) (i9 := i9) (i10 := i10) (i11 := i11) (i12 := i12) (i13 := i13) (i14 := i14) (i15 := i15) (i16 := i16) (i17 := i17) hT hI hi hz hzd hzn hsize hn hby hov hm hB11 hB15 h8_0 h8_1 h8_2 h8_3 h8_4 h8_5 h9_0 h9_1 h9_2 h9_3 h9_4 h9_5 h9_6 h9_7 h9_8 h9_9 h10_0 h10_1 h10_2 h10_3 h10_4 h11_0 h11_1 h11_2 h11_3 h11_4 h11_5 h11_6 h11_7 h11_8 h12_0 h12_1 h13_0 h13_1 h13_2 h13_3 h13_4 h13_5 h14_0 h14_1 h14_2 h14_3 h14_4 h14_5 h14_6 h14_7 h15_0 h15_1 h15_2 h15_3 h15_4 h15_5 h15_6 h15_7 h15_8 h16_0 h16_1 h16_2 h16_3 h16_4 h17_0 h17_1 (by simpa only [List.length_map] using hc)
 simp only [List.length_map, List.map_append, List.map_take, List.map_drop] at this hq ⊢
 exact this hq
section
variable {P : Program} {pu : Bool} {st : St} {ops : Array Oper} {k m : Nat} {Q : St → Prop}
end
def uF {α ρ : Type} [DecidableEq ρ] (xs : List α) (f : Bool → Option ρ) : Option ρ := bif xs.isEmpty then (if f true = f false then f true else none) else f false
theorem ke {α ρ : Type} [DecidableEq ρ] {xs : List α} {f : Bool → Option ρ} {r : ρ} (h : uF xs f = some r) (b : Bool) (hb : b = true → xs = []) : f b = some r := by
 unfold uF at h
 cases hx : xs.isEmpty with
 | true =>
  rw [hx] at h
  simp only [cond_true] at h
  split at h
  ·rename_i e; cases b
   ·rw [← e]; exact h
   ·exact h
  ·cases h
 | false =>
  rw [hx] at h
  cases b with
  | false => exact h
  | true => have := hb rfl; subst this; simp at hx
end Go.Sh
namespace Go.Sh
theorem PC.xB {P : Program} {f : FuncId} {args : List SV} {r : SV} (h : ∀ (w : World) (g : Gh) (vs : Array Value), fj g w vs args → Calls P f vs w fun e w' => ∃ v, e = .returned v ∧ w' = w ∧ nu g w v r) : PC P f args r := by
 intro H w g vs hA hH
 refine (h w g vs hA).mono fun e w' hh => ?_
 obtain ⟨v, rfl, rfl, hr⟩ := hh
 exact ⟨v, g, rfl, hr, hH, Fr.refl _ _ _⟩
theorem fj.Bl {g : Gh} {w : World} {vs : Array Value} {a b : List UInt8} (h : fj g w vs [vS a, vS b]) : vs = #[.string (mk a), .string (mk b)] := by
 obtain ⟨h1, h2⟩ := h
 obtain ⟨u0, e0, r0⟩ := h2 0 (vS a) rfl
 obtain ⟨u1, e1, r1⟩ := h2 1 (vS b) rfl
 have r0 : Rd g w u0 (.str a) := r0
 have r1 : Rd g w u1 (.str b) := r1
 cases r0; cases r1
 apply Array.ext_getElem?
 intro i
 match i with
 | 0 => simpa using e0
 | 1 => simpa using e1
 | i + 2 => rw [Array.getElem?_eq_none (by rw [h1]; simp), Array.getElem?_eq_none (by simp)]
def AE (fuel : Nat) (a b : List UInt8) : Option Int := some (Lib.compareBytes a b)
theorem zA {P : Program} {f fuel : Nat} {a b : List UInt8} {r : Int} (h : AE fuel a b = some r)
  (hc : ∀ (a b : ByteArray) (w : World), Calls P f #[.string a, .string b] w fun e w' => e = .returned (.int .i64 (Lib.compareBytes a.data.toList b.data.toList)) ∧ w' = w) : PC P f [vS a, vS b] (vI r) := by
 cases h
 refine PC.xB fun w g vs hA => ?_
 rw [hA.Bl]
 refine (hc (mk a) (mk b) w).mono fun e w' hh => ?_
 obtain ⟨rfl, rfl⟩ := hh
 exact ⟨_, rfl, rfl, (.int : Rd g w' _ _)⟩
end Go.Sh
namespace Go.Sh
section
variable {P : Program} {pu : Bool} {st : St} {ops : Array Oper}
def vE : List Nat → Array Bool → Array Bool
 | [], l => l
 | m :: ms, l => vE ms (l.setIfInBounds m true)
end
end Go.Sh
namespace Go.Sh
def Ab (P : Program) (T e : TypeId) (n : Nat) : Bool :=
 match P.underlying T, P.info? e with
 | some (.slice e'), some ti => match ti.zero with
  | some z => e' == e && (jB z).isSome && z.cells.size == n && ti.size == n && decide (0 < n) && decide (ti.bytes ≤ 65536)
  | none => false
 | _, _ => false
theorem pT {P : Program} {T e : TypeId} {n : Nat} (h : Ab P T e n = true) :
  P.underlying T = some (.slice e) ∧ ∃ ti z zd, P.info? e = some ti ∧ ti.zero = some z ∧ jB z = some zd ∧ z.cells.size = n ∧ ti.size = n ∧ 0 < n ∧ ti.bytes ≤ 65536 := by
 unfold Ab at h
 split at h
 ·rename_i e' ti hT hi
  split at h
  ·rename_i z hz
   simp only [Bool.and_eq_true, decide_eq_true_eq, beq_iff_eq, Option.isSome_iff_exists] at h
   obtain ⟨⟨⟨⟨⟨rfl, zd, hzd⟩, h1⟩, h2⟩, h3⟩, h4⟩ := h
   exact ⟨hT, ti, z, zd, hi, hz, hzd, h1, h2, h3, h4⟩
  ·cases h
 ·cases h
end Go.Sh
namespace Go.Sh
section
variable {P : Program}
def Cw (P : Program) (T : TypeId) : Bool := match P.underlying T with | some (.map k _) => (match P.underlying k with | some .string => true | _ => false) | _ => false
def uQ (P : Program) (s : TypeId) (f : Nat) : Bool := match P.underlying s with
 | some (.struct fs) => (match fs[f]? with | some fl => ((P.info? fl.type).map fun i => i.size != 0).getD false | none => false)
 | _ => false
end
end Go.Sh
namespace Go.Sh
section
variable {P : Program} {ops : Array Oper} {md : Region.Mode} {R : Act → World → Prop}
end
section
variable {P : Program} {pu : Bool} {st : St} {ops : Array Oper}
end
end Go.Sh
namespace Go.Sh
section
variable {P : Program} {pu : Bool} {st : St} {ops : Array Oper}
theorem yN {o : Oper} {a : Act} {next : Act → World → Prop} {R R' : Act → World → Prop} {r : Result Next} (h : o.upon P a next (NQ R) r) : o.upon P a next (NQ R') r := by
 cases r with
 | ok n w' =>
  cases n <;> simp only [Oper.upon] at h ⊢ <;> first
   | exact h
   | (refine h.mono fun e w'' hh => ?_
      cases e with
     | returned v => exact hh
     | panicked ch => cases hh.1
     | outgrown => exact absurd hh NQ.out)
 | halt hh w' => cases hh <;> simp only [Oper.upon] at h ⊢ <;> first | exact h | cases h.1
def dq (n m : Nat) : Array Bool := ((List.range n).map (fun i => m.testBit i)).toArray
theorem ja (n m i : Nat) : (dq n m).setIfInBounds i true = dq n (m ||| 2 ^ i) := by
 apply Array.ext_getElem?
 intro j
 simp only [dq, Array.getElem?_setIfInBounds]
 by_cases hj : j < n
 ·by_cases e : i = j
  ·subst e; simp [hj, Nat.testBit_or]
  ·simp [e, hj, Nat.testBit_or, Nat.testBit_two_pow]
 ·simp [hj]; omega
theorem kU (n : Nat) : dq n 0 = Array.replicate n false := by
 apply Array.ext_getElem?
 intro j
 by_cases hj : j < n
 ·simp [dq, hj]
 ·simp [dq, hj]
def Bu (ops : Array Oper) (i : Nat) : Array Oper := match ops[i]? with
 | some o => #[o]
 | none => #[]
def OX (P : Program) (pu : Bool) (ops : Array Oper) (d m : Nat) (st st' : St) : Prop :=
 ∀ a w g, Rel st a w g → ∀ R : Act → World → Prop, (∀ a' w' g', Rel st' a' w' g' → Fr pu g w g' w' → R a' w') → wpAny P .any ops (NQ R) d (dq ops.size m) a w
def yJ : List Nat → (Nat → Prop) → Prop
 | [], _ => True
 | i :: r, p => p i ∧ yJ r p
theorem mK {p : Nat → Prop} : ∀ {l : List Nat}, yJ l p → ∀ i ∈ l, p i
 | i :: r, h, j, hj => by
  rcases List.mem_cons.1 hj with rfl | hj
  ·exact h.1
  ·exact mK h.2 j hj
theorem OX.fin {m : Nat} (h : Region.ready .any ops (dq ops.size m) = []) : OX P pu ops 0 m st st :=
 fun a w g hr R hR => ⟨h, rfl, hR a w g hr (Fr.refl _ _ _)⟩
theorem OX.step {d m i0 : Nat} {is : List Nat} {st' : St} (hg : ops.all (fun o => o.guard.isNone) = true) (h : Region.ready .any ops (dq ops.size m) = i0 :: is)
  (hs : yJ (i0 :: is) (fun i => OWk P pu (Bu ops i) 0 st (fun s => OX P pu ops d (m ||| 2 ^ i) s st'))) : OX P pu ops (d + 1) m st st' := by
 intro a w g hr R hR
 unfold wpAny
 rw [h]
 refine ⟨fun e => (List.cons_ne_nil _ _ e).elim, fun i hi => ?_⟩
 have hi' : i ∈ Region.ready .any ops (dq ops.size m) := by rw [h]; exact hi
 obtain ⟨_, o, ho, _⟩ := mem_ready.1 hi'
 have h1 := mK hs i hi
 have hog : o.guard = none := pj hg [i] o (by simp [opsOf, ho])
 simp only [Bu, ho] at h1
 unfold OWk at h1
 rw [List.drop_zero] at h1
 have h2 := h1 a w g hr (NQ (wpAny P .any ops (NQ R) d (dq ops.size (m ||| 2 ^ i)))) (fun st1 a1 w1 g1 q1 r1 f1 => ⟨rfl, q1 a1 w1 g1 r1 R fun a' w' g' r2 f2 => hR a' w' g' r2 (f1.trans f2)⟩)
 unfold wpOp
 rw [ho]
 simp only
 rw [if_pos (kK hog _)]
 unfold wpList at h2
 rw [if_pos (kK hog _)] at h2
 rcases h2 with h2 | h2
 ·left
  rw [ja]
  have h3 := Oper.wp_mono (K' := wpAny P .any ops (NQ R) d (dq ops.size (m ||| 2 ^ i))) (fun a' w' hh => (show NQ (wpAny P .any ops (NQ R) d (dq ops.size (m ||| 2 ^ i))) .normal a' w' from hh).2) h2
  exact yN h3
 ·exact absurd h2.2 NQ.out
theorem SW.yZ {id : Nat} {l : List Oper} {Q : Exit → St → Prop} {st' : St} (hm : P.follows .mixedOrders = true) (h : OX P pu l.toArray l.length 0 st st') (hq : Q .normal st') : SW P pu (.region id l.toArray true) st Q := by
 intro a w g hr
 refine Code.wp_mono (Q := NQ fun a' w' => ∃ st' g', Q .normal st' ∧ Rel st' a' w' g' ∧ Fr pu g w g' w') (fun e a' w' hh => by obtain ⟨rfl, hh⟩ := hh; exact hh) ?_
 refine wp_region_any hm ?_
 have := h a w.drew g hr.drew (fun a' w' => ∃ st' g', Q .normal st' ∧ Rel st' a' w' g' ∧ Fr pu g w g' w') (fun a' w' g' r f => ⟨st', g', hq, r, Fr.drew.trans f⟩)
 rw [kU] at this
 simpa using this
end
end Go.Sh
namespace Go.Sh
theorem SW.y8 {P : Program} {pu : Bool} {st : St} {id : Nat} {l : List Oper} {Q : Exit → St → Prop} (n : Nat) (H : List ar) (ll : List (Nat × SV)) (hm : P.follows .mixedOrders = true)
  (h : ∀ X : Nat → Nat → St → Prop, (X = fun d m s => OX P pu l.toArray d m s (sp n ll H)) → X l.length 0 st) (hq : Q .normal (sp n ll H)) : SW P pu (.region id l.toArray true) st Q :=
 SW.yZ hm (h _ rfl) hq
end Go.Sh
namespace Go.Sh
section
variable {P : Program} {pu : Bool} {st : St} {ops : Array Oper} {Q : St → Prop} {k : Nat}
theorem OpS.CI {o : Oper} {T : TypeId} {x : Operand} {d : Nat} {y : D} (hop : o.op = .box T x) (hd : o.dst = some d) (hy : bK st x = some y) : OpS P pu st o (st.put (some d) (.d (.aR y.cells))) := by
 refine OpS.value fun a w g hr => ?_
 have e2 := bw hr hy
 obtain ⟨c1, c2⟩ := e2.cells
 rw [hd]
 have hr1 : Rel st a (w.alloc (.cells (a.eval x).cells T)) (g.upd w.heap.size .free) := hr.world (fun _ => az.alloc) (fun _ _ h => h) rfl
 have hrd : Rd (g.upd w.heap.size .free) (w.alloc (.cells (a.eval x).cells T)) (.pointer (some ⟨w.heap.size, 0, none⟩)) (.aR y.cells) := by
  refine .aR (fun j => (a.eval x).cells.getD j undef) (by simp) (heap_alloc _ _) (fun j z hj => ?_) (fun j z hj => ?_)
  ·obtain ⟨u, u1, u2, u3⟩ := c2 j z hj
   rw [Nat.zero_add]
   simp only [Array.getD_eq_getD_getElem?, u1, Option.getD_some]
   exact ⟨trivial, u3⟩
  ·obtain ⟨u, u1, u2, u3⟩ := c2 j z hj
   simp only [Array.getD_eq_getD_getElem?, u1, Option.getD_some]
   exact Rd.aG az.alloc (fun _ _ h => h) u2
 refine ⟨.pointer (some ⟨w.heap.size, 0, none⟩), w.alloc (.cells (a.eval x).cells T), _, ?_, hr1.b9 (some d) hrd, Fr.alloc⟩
 unfold execOp; rw [hop]
 simp only [Instr.box, Sem.run_bind, newVar, newRow, run_newObj, Result.andThen_ok, Sem.run_pure]
 rfl
def BO (ops : Array Oper) (k : Nat) (st : St) : Option (Nat × List D) :=
 match ops[k]? with
 | some o => match o.op, o.dst with
  | .box _ x, some d => match bK st x with
   | some y => if cV ops st o = some true then some (d, y.cells) else none
   | none => none
  | _, _ => none
 | none => none
theorem OWk.bxf (n : Nat) (H : List ar) {d : Nat} {ds : List D} (L : List Nat) (l : List (Nat × SV)) (h : BO ops k st = some (d, ds)) (hst : aV n L (st.put (some d) (.d (.aR ds))) = some (l, H))
  (hn : OWk P pu ops (k + 1) (sp n l H) Q) : OWk P pu ops k st Q := by
 unfold BO at h
 split at h
 ·rename_i o ho
  split at h
  ·rename_i T x d' hop hd
   split at h
   ·rename_i y hy
    split at h
    ·rename_i hw
     cases h
     exact OWk.e ho hw (OpS.CI hop hd hy) (OWk.aG L (ay hst) hn)
    ·cases h
   ·cases h
  ·cases h
 ·cases h
end
end Go.Sh
namespace Go.Sh
open Go.Sort
end Go.Sh
namespace Go.Sh
section
variable {P : Program} {pu : Bool} {st : St}
end
end Go.Sh
namespace Go.Sh
section
variable {P : Program} {ops : Array Oper} {md : Region.Mode} {R : Act → World → Prop} {pu : Bool} {st : St}
def bh (P : Program) {α : Type} (m : Sem α) : Prop := ∀ w x w', m.run P w = .ok x w' → w' = w ∧ ∀ w2, m.run P w2 = .ok x w2
theorem bh.pure {α : Type} (x : α) : bh P (Pure.pure x : Sem α) := fun w y w' h => by
 rw [Sem.run_pure] at h; cases h; exact ⟨rfl, fun w2 => by rw [Sem.run_pure]⟩
theorem bh.never {α : Type} {m : Sem α} (h : ∀ w x w', m.run P w ≠ .ok x w') : bh P m := fun w x w' h1 => absurd h1 (h w x w')
theorem bh.halt {α : Type} (hh : Halt) : bh P (Sem.halt hh : Sem α) := .never fun w x w' h => by simp [Sem.run] at h
theorem bh.bind {α β : Type} {m : Sem α} {f : α → Sem β} (h1 : bh P m) (h2 : ∀ x, bh P (f x)) : bh P (m >>= f) := fun w x w' h => by
 rw [Sem.run_bind] at h
 cases hm : m.run P w with
 | ok y w1 =>
  rw [hm, Result.andThen_ok] at h
  obtain ⟨rfl, a2⟩ := h1 w y w1 hm
  obtain ⟨b1, b2⟩ := h2 y _ x w' h
  exact ⟨b1, fun w2 => by rw [Sem.run_bind, a2 w2, Result.andThen_ok]; exact b2 w2⟩
 | halt y w1 => rw [hm] at h; cases h
theorem bh.program : bh P Go.program := fun w x w' h => by
 simp only [Go.program, Sem.run] at h; cases h; exact ⟨rfl, fun w2 => rfl⟩
theorem bh.typeInfo (t : TypeId) : bh P (Go.typeInfo t) := by
 unfold Go.typeInfo
 refine bh.program.bind fun p => ?_
 split
 ·exact .pure _
 ·exact .halt _
theorem bh.underlying (t : TypeId) : bh P (Go.underlying t) := by
 unfold Go.underlying
 refine bh.program.bind fun p => ?_
 split
 ·exact .pure _
 ·exact .halt _
theorem bh.sizeOf (t : TypeId) : bh P (Go.sizeOf t) := (bh.typeInfo t).bind fun _ => .pure _
theorem po {α : Type} : ∀ w (x : α) w', (runtimePanic .nilDeref : Sem α).run P w ≠ .ok x w' := fun w x w' h => by
 unfold runtimePanic at h
 simp [Sem.run_bind, Go.program, Sem.run, Result.andThen_ok, goPanic] at h
theorem mE {α : Type} (x y : Int) (s : Bool) (c : BoundsCode) : ∀ w (z : α) w', (runtimePanic (.bounds x y s c) : Sem α).run P w ≠ .ok z w' := fun w z w' h => by
 unfold runtimePanic at h
 simp [Sem.run_bind, Go.program, Sem.run, Result.andThen_ok, goPanic] at h
theorem bh.nilDeref {α : Type} : bh P (runtimePanic .nilDeref : Sem α) := .never po
theorem pq {α β : Type} {m : Sem α} {f : α → Sem β} (h : ∀ y w x w', (f y).run P w ≠ .ok x w') : ∀ w x w', (m >>= f).run P w ≠ .ok x w' := fun w x w' h1 => by
 rw [Sem.run_bind] at h1
 cases hm : m.run P w with
 | ok y w1 => rw [hm, Result.andThen_ok] at h1; exact h y _ _ _ h1
 | halt y w1 => rw [hm] at h1; cases h1
theorem bh.bounds {α : Type} (k : IntKind) (x y : Int) (c : BoundsCode) : bh P (boundsPanic k x y c : Sem α) := .never fun w z w' h => by
 unfold boundsPanic at h
 simp only at h
 split at h
 ·exact pq (fun s => mE _ _ _ _) _ _ _ h
 ·exact pq (fun s => mE _ _ _ _) _ _ _ h
theorem bh.asIntOf (v : Value) : bh P (Go.asIntOf v) := by
 unfold Go.asIntOf
 split
 ·exact .pure _
 ·exact .halt _
 ·exact .halt _
theorem bh.asAddr (v : Value) : bh P (Go.asAddr v) := by
 unfold Go.asAddr
 split
 ·exact .pure _
 ·exact .nilDeref
 ·exact .halt _
theorem bh.sureAddr (v : Value) : bh P (Instr.sureAddr v) := by
 unfold Instr.sureAddr
 split
 ·exact .pure _
 ·exact .halt _
theorem bh.sliceBound (x : Value) (y : Nat) (c : BoundsCode) : bh P (Instr.sliceBound x y c) := by
 unfold Instr.sliceBound
 refine (bh.asIntOf x).bind fun p => ?_
 obtain ⟨k, i⟩ := p
 simp only
 split
 ·exact .pure _
 ·exact .bounds _ _ _ _
theorem bh.sliceBounds (s : Bool) (len cap : Nat) (lo hi mx : Option Value) : bh P (Instr.sliceBounds s len cap lo hi mx) := by
 unfold Instr.sliceBounds
 dsimp only
 repeat' first
  | exact .pure _
  | exact .halt _
  | exact .sliceBound _ _ _
  | refine bh.bind ?_ fun _ => ?_
  | split
theorem bh.slice (t : TypeId) (x : Value) (lo hi mx : Option Value) : bh P (Instr.slice t x lo hi mx) := by
 unfold Instr.slice
 dsimp only
 repeat' first
  | exact .pure _
  | exact .halt _
  | exact .underlying _
  | exact .sizeOf _
  | exact .asAddr _
  | exact .sliceBounds _ _ _ _ _ _
  | refine bh.bind ?_ fun _ => ?_
  | split
theorem bh.sliceAt (t : TypeId) (x : Value) (lo hi mx : Option Value) : bh P (Instr.sliceAt t x lo hi mx) := by
 unfold Instr.sliceAt
 dsimp only
 repeat' first
  | exact .pure _
  | exact .halt _
  | exact .underlying _
  | exact .sizeOf _
  | exact .sureAddr _
  | exact .slice _ _ _ _ _
  | exact .sliceBounds _ _ _ _ _ _
  | refine bh.bind ?_ fun _ => ?_
  | split
theorem bh.under {T : TypeId} {d : TypeDesc} (hd : P.underlying T = some d) {α : Type} {f : TypeDesc → Sem α} (h : bh P (f d)) : bh P (Go.underlying T >>= f) := fun w x w' h1 => by
 rw [Sem.run_bind, run_underlying hd, Result.andThen_ok] at h1
 obtain ⟨a, b⟩ := h w x w' h1
 exact ⟨a, fun w2 => by rw [Sem.run_bind, run_underlying hd, Result.andThen_ok]; exact b w2⟩
theorem bh.fieldAt {s : TypeId} {f : Nat} (h : uQ P s f = true) (x : Value) : bh P (Instr.fieldAt s x f) := by
 unfold uQ at h
 split at h
 ·rename_i fs hs
  split at h
  ·rename_i fl hf
   cases hi : P.info? fl.type with
   | none => rw [hi] at h; cases h
   | some i =>
    rw [hi] at h
    simp only [Option.map_some, Option.getD_some, bne_iff_ne, ne_eq] at h
    have hti : ∀ w, (Go.typeInfo fl.type).run P w = .ok i w := fun w => by
     unfold Go.typeInfo Go.program
     simp [Sem.run_bind, Sem.run, hi]
    unfold Instr.fieldAt
    refine bh.under hs ?_
    simp only [hf]
    refine (bh.sureAddr x).bind fun a => bh.bind ?_ fun _ => .pure _
    unfold fieldPlace
    intro w y w' h1
    simp only [Sem.run_bind, Go.sizeOf, hti, Result.andThen_ok, Sem.run_pure, h, if_false] at h1
    cases h1
    exact ⟨rfl, fun w2 => by simp only [Sem.run_bind, Go.sizeOf, hti, Result.andThen_ok, Sem.run_pure, h, if_false]⟩
  ·cases h
 ·cases h
theorem bh.indexAt (t : TypeId) (x ix : Value) : bh P (Instr.indexAt t x ix) := by
 unfold Instr.indexAt
 dsimp only
 repeat' first
  | exact .pure _
  | exact .halt _
  | exact .underlying _
  | exact .sizeOf _
  | exact .sureAddr _
  | exact .asIntOf _
  | exact .bounds _ _ _ _
  | refine bh.bind ?_ fun _ => ?_
  | split
def gO (P : Program) (o : Oper) : Bool := match o.op with
 | .move _ | .slice _ _ _ _ _ | .indexAddr _ _ _ => true
 | .fieldAddr s _ f => uQ P s f
 | _ => false
theorem nX {o : Oper} (h : gO P o = true) (ρ : Operand → Value) : bh P (execOp ρ o) := by
 unfold gO at h
 unfold execOp
 split at h
 ·rename_i x hop; rw [hop]; exact .pure _
 ·rename_i T x lo hi mx hop; rw [hop]; exact (bh.sliceAt _ _ _ _ _).bind fun _ => .pure _
 ·rename_i T x i hop; rw [hop]; exact (bh.indexAt _ _ _).bind fun _ => .pure _
 ·rename_i s x f hop; rw [hop]; exact (bh.fieldAt h _).bind fun _ => .pure _
 ·cases h
def gP (P : Program) (o : Oper) (a : Act) (v : Value) : Prop := ∀ w, (execOp a.eval o).run P w = .ok (.value v) w
theorem oR {m : Sem Value} {w : World} {n : Next} {w' : World} (h : (do pure (.value (← m)) : Sem Next).run P w = .ok n w') : ∃ v, n = .value v := by
 rw [Sem.run_bind] at h
 cases hm : m.run P w with
 | ok y w1 => rw [hm, Result.andThen_ok, Sem.run_pure] at h; cases h; exact ⟨_, rfl⟩
 | halt y w1 => rw [hm] at h; cases h
theorem sj {o : Oper} (h : gO P o = true) {ρ : Operand → Value} {w : World} {n : Next} {w' : World} (hr : (execOp ρ o).run P w = .ok n w') : ∃ v, n = .value v := by
 unfold gO at h
 unfold execOp at hr
 split at h
 ·rename_i x hop; rw [hop] at hr; simp only [Sem.run_pure] at hr; cases hr; exact ⟨_, rfl⟩
 ·rename_i T x lo hi mx hop; rw [hop] at hr; exact oR hr
 ·rename_i T x i hop; rw [hop] at hr; exact oR hr
 ·rename_i s x f hop; rw [hop] at hr; exact oR hr
 ·cases h
theorem pY {o : Oper} (h : gO P o = true) (cs : Array SelectCase) (b : Bool) : o.op ≠ .select cs b := fun e => by
 unfold gO at h
 rw [e] at h
 cases h
theorem gP.put {o oj : Oper} (hap : o.apart ops oj = true) (hs : ∀ cs b, o.op ≠ .select cs b) {a : Act} {v u : Value} (h : gP P o a v) : gP P o (a.put oj.dst u) v := fun w => by
 rw [execOp_put (ops := ops) o hs a oj.dst u (Oper.apart_spec hap).2.2]
 exact h w
theorem gP.defers {o : Oper} {a : Act} {v : Value} (h : gP P o a v) (ds : List Deferred) : gP P o { a with defers := ds } v := fun w => by
 have e : ({ a with defers := ds } : Act).eval = a.eval := funext (tq a ds)
 rw [e]; exact h w
theorem wa {j : Nat} {oi oj : Oper} {v : Value} (hj : ops[j]? = some oj) (hb : gO P oi = true) (hap : oi.apart ops oj = true) (hsj : ∀ cs b, oj.op ≠ .select cs b) {K : Act → World → Prop} {a : Act} {w : World}
  (hv : gP P oi a v) (h : wpOp P ops (NQ R) j K (a.put oi.dst v) w) : wpOp P ops (NQ R) j (fun a' w' => gP P oi a' v ∧ K (a'.put oi.dst v) w') a w := by
 obtain ⟨h1, h2, h3⟩ := Oper.apart_spec hap
 have aG : ∀ u, gP P oi (a.put oj.dst u) v := fun u => hv.put hap (pY hb)
 have keep' : ∀ u ds, gP P oi (({ a with defers := ds } : Act).put oj.dst u) v := fun u ds => (hv.defers ds).put hap (pY hb)
 unfold wpOp at *
 simp only [hj] at *
 rw [wanted_put oj a oi.dst v h1] at h
 split
 ·rename_i hw
  simp only [hw, if_true] at h
  refine .inl ?_
  rcases h with h | h
  ·unfold Oper.wp at *
   rw [execOp_put oj hsj a oi.dst v h1] at h
   generalize (execOp a.eval oj).run P w = r at *
   cases r with
   | ok n w' =>
    cases n <;> simp only [Oper.upon] at h ⊢
    case value u => exact ⟨aG u, by rw [← Act.put_comm a v u h2]; exact h⟩
    case skip => exact ⟨aG _, by rw [← Act.put_comm a v undef h2]; exact h⟩
    case defer d =>
     refine ⟨keep' _ _, ?_⟩
     rw [bZ, uU] at h
     rw [← Act.put_comm _ v undef h2]; exact h
    case enter f args =>
     refine h.mono fun e w'' hh => ?_
     cases e with
     | returned u => exact ⟨aG u, by rw [← Act.put_comm a v u h2]; exact hh⟩
     | panicked chain => exact absurd hh.1 (by simp)
     | outgrown => exact absurd hh NQ.out
    case row row args => exact h.mono fun u w'' hh => ⟨aG u, by rw [← Act.put_comm a v u h2]; exact hh⟩
   | halt y w' =>
    cases y <;> simp only [Oper.upon] at h ⊢
    exact absurd h.1 (by simp)
  ·exact absurd h.2 NQ.out
 ·rename_i hw
  simp only [hw] at h
  exact ⟨aG _, by rw [← Act.put_comm a v undef h2]; exact h⟩
theorem tY {i : Nat} {oi : Oper} {v : Value} (hi : ops[i]? = some oi) (hb : gO P oi = true) (hg : oi.guard = none) (hsel : ∀ (j : Nat) (o : Oper) cs b, ops[j]? = some o → o.op ≠ .select cs b) :
  ∀ (fuel : Nat) (listed : Array Bool) (a : Act) (w : World), gP P oi a v →
   (∀ j oj, ops[j]? = some oj → j ≠ i → listed.getD j true = false → (∀ e ∈ oj.after, Region.binds md e = true → e.on ≠ i) → oi.apart ops oj = true) →
   i ∈ Region.ready md ops listed →
   wpAny P md ops (NQ R) fuel (listed.setIfInBounds i true) (a.put oi.dst v) w → wpAny P md ops (NQ R) (fuel + 1) listed a w := by
 have one : ∀ (K : Act → World → Prop) (a : Act) (w : World), gP P oi a v → K (a.put oi.dst v) w → wpOp P ops (NQ R) i K a w := fun K a w hv h => by
  unfold wpOp
  simp only [hi]
  have hw : Region.wanted oi (yielded ops a.tmps) = true := by unfold Region.wanted; rw [hg]
  rw [if_pos hw]
  refine .inl ?_
  unfold Oper.wp
  rw [hv w, Oper.upon_value]
  exact h
 intro fuel
 induction fuel with
 | zero =>
  intro listed a w hv _ hr H
  refine ⟨fun h => (by rw [h] at hr; cases hr), fun j hj => ?_⟩
  by_cases hji : j = i
  ·subst hji; exact one _ a w hv H
  ·have := ready_mono hj hji
   rw [H.1] at this
   cases this
 | succ fuel ih =>
  intro listed a w hv hfree hr H
  refine ⟨fun h => (by rw [h] at hr; cases hr), fun j hj => ?_⟩
  by_cases hji : j = i
  ·subst hji; exact one _ a w hv H
  ·have h1 := H.2 j (ready_mono hj hji)
   obtain ⟨hjun, oj, hoj, hall⟩ := mem_ready.1 hj
   have hnot : ∀ e ∈ oj.after, Region.binds md e = true → e.on ≠ i := fun e he hb heq => by
    have h1 := hall e he hb
    have h0 := (mem_ready.1 hr).1
    rw [heq] at h1
    rcases Nat.lt_or_ge i listed.size with h' | h'
    ·simp [h'] at h0 h1; rw [h0] at h1; cases h1
    ·simp [Array.getElem?_eq_none h'] at h1
   have h2 := wa hoj hb (hfree j oj hoj hji hjun hnot) (fun cs b => hsel j oj cs b hoj) hv h1
   have hfree' : ∀ k ok, ops[k]? = some ok → k ≠ i → (listed.setIfInBounds j true).getD k true = false →
     (∀ e ∈ ok.after, Region.binds md e = true → e.on ≠ i) → oi.apart ops ok = true := fun k ok hk hki hun hno => by
    refine hfree k ok hk hki ?_ hno
    by_cases hjk : j = k
    ·subst hjk; exact hjun
    ·rw [getD_set_ne true hjk] at hun; exact hun
   refine wpOp_mono (fun a' w' h3 => ih (listed.setIfInBounds j true) a' w' h3.1 hfree' (ready_mono hr (Ne.symm hji)) ?_) h2
   rw [Array.setIfInBounds_comm _ _ hji]
   exact h3.2
def rH (P : Program) (ops : Array Oper) : List Nat → Array Bool → Bool
 | [], _ => true
 | m :: ms, l => ((ops[m]?).map (gO P)).getD false && (Region.ready .any ops l).contains m && Region.free .any ops l m && rH P ops ms (l.setIfInBounds m true)
theorem nw (hng : ops.all (fun o => o.guard.isNone) = true) (hsel : ∀ (j : Nat) (o : Oper) cs b, ops[j]? = some o → o.op ≠ .select cs b) {Q : Act → Prop} {w : World} {fuel : Nat} :
  ∀ (ms : List Nat) (l : Array Bool) (a : Act), rH P ops ms l = true → (∀ a', Q a' → wpAny P .any ops (NQ R) fuel (vE ms l) a' w) →
   wpStill P ops w Q (opsOf ops ms) a → wpAny P .any ops (NQ R) (ms.length + fuel) l a w
 | [], l, a, _, hk, h => by simpa [vE] using hk a h
 | m :: ms, l, a, hb, hk, h => by
  simp only [rH, Bool.and_eq_true] at hb
  obtain ⟨⟨⟨b1, b2⟩, b3⟩, b4⟩ := hb
  have hmr : m ∈ Region.ready .any ops l := by simpa using b2
  obtain ⟨hm0, om, hom, hmall⟩ := mem_ready.1 hmr
  rw [hom] at b1
  have b1 : gO P om = true := by simpa using b1
  have hmg : om.guard = none := pj hng [m] om (by simp [opsOf, hom])
  have hcons : opsOf ops (m :: ms) = om :: opsOf ops ms := by simp [opsOf, hom]
  rw [hcons] at h
  unfold wpStill at h
  rw [if_pos (kK hmg _)] at h
  unfold Oper.still at h
  cases hx : (execOp a.eval om).run P w with
  | halt y w1 => rw [hx] at h; exact h.elim
  | ok n w1 =>
   obtain ⟨v, rfl⟩ := sj b1 hx
   obtain ⟨rfl, hall⟩ := nX b1 a.eval w _ w1 hx
   rw [hx, Oper.stillUpon_value] at h
   have := nw hng hsel ms (l.setIfInBounds m true) _ b4 hk h
   have e : (m :: ms).length + fuel = (ms.length + fuel) + 1 := by simp; omega
   rw [e]
   exact tY hom b1 hmg hsel _ _ a _ hall (Region.free_spec hom b3) hmr this
theorem SW.nB {id : Nat} {l : List Oper} {Q : Exit → St → Prop} (n : Nat) (H : List ar) (ll : List (Nat × SV)) (ms : List Nat) (d M : Nat) (hm : P.follows .mixedOrders = true)
  (hB : (Region.noSelect l.toArray && l.toArray.all (fun o => o.guard.isNone) && rH P l.toArray ms (Array.replicate l.toArray.size false) && decide (l.toArray.size = ms.length + d) && decide ((opsOf l.toArray ms).length = ms.length)) = true)
  (hM : vE ms (Array.replicate l.toArray.size false) = dq l.toArray.size M)
  (h : ∀ X : Nat → Nat → St → Prop, (X = fun d m s => OX P pu l.toArray d m s (sp n ll H)) → OBk P (opsOf l.toArray ms).toArray ms.length 0 st (fun st1 => X d M st1)) (hq : Q .normal (sp n ll H)) : SW P pu (.region id l.toArray true) st Q := by
 have h := h _ rfl
 generalize hops : l.toArray = ops at *
 simp only [Bool.and_eq_true, decide_eq_true_eq] at hB
 obtain ⟨⟨⟨⟨b1, b2⟩, b3⟩, b4⟩, b5⟩ := hB
 intro a w g hr
 refine Code.wp_mono (Q := NQ fun a' w' => ∃ st' g', Q .normal st' ∧ Rel st' a' w' g' ∧ Fr pu g w g' w') (fun e a' w' hh => by obtain ⟨rfl, hh⟩ := hh; exact hh) ?_
 refine wp_region_any hm ?_
 have hl1 : (opsOf ops ms).toArray.toList.take ms.length = opsOf ops ms := by simp [← b5]
 unfold OBk at h
 rw [List.drop_zero, hl1] at h
 have key := h a w.drew g hr.drew (fun a' => wpAny P .any ops (NQ fun a' w' => ∃ st' g', Q .normal st' ∧ Rel st' a' w' g' ∧ Fr pu g w g' w') d (dq ops.size M) a' w.drew) (fun st1 a1 g1 q1 r1 f1 =>
  q1 a1 w.drew g1 r1 _ fun a' w' g' r f => ⟨sp n ll H, g', hq, r, (Fr.drew.trans (f1 pu)).trans f⟩)
 have key := oM (ops := ops) (pj b2 ms) key
 rw [b4]
 rw [b4] at hM key
 refine nw b2 (Region.noSelect_spec b1) (Q := fun a' => wpAny P .any ops (NQ fun a' w' => ∃ st' g', Q .normal st' ∧ Rel st' a' w' g' ∧ Fr pu g w g' w') d (dq (ms.length + d) M) a' w.drew) ms _ a (by rw [← b4]; exact b3) (fun a' ha' => ?_) key
 rw [hM]
 exact ha'
end
end Go.Sh
namespace Go.Sh
def rp (t : Nat) : Own → Own
 | .free => .free
 | .obj i => .obj i
 | .lst (.ai i j) => .lst (.ai i j)
 | .lst (.slot 0) => .lst (.slot t)
 | .lst (.comp 0 j) => .lst (.comp t j)
 | _ => .lst .els
def fA : Own → Bool
 | .obj _ | .lst (.ai _ _) => true
 | _ => false
def fM (n t : Nat) (ow ow' : Nat → Own) (k : Nat) : Own := if k < n ∧ fA (ow k) = false then ow k else rp t (ow' k)
def eh : SV → Bool
 | .bf (.ai _ _) _ _ | .bO (.ai _ _) _ => false
 | _ => true
section
variable {P : Program} {ops : Array Oper} {rest : List Oper} {st : St} {Q : St → Prop}
theorem zZ {g g' : Gh} {w w' : World} (hf : Fr false (g.ren (ak [] [])) w g' w') {k : Nat} {b : Obj} (hb : w.heap[k]? = some b) (hs : fA (g.ow k) = false) :
  (g'.ow k = .free ∨ g'.ow k = .out) ∧ (g'.ow k = .free → g.ow k = .free) ∧ w'.heap[k]? = some b := by
 cases ho : g.ow k with
 | free =>
  have h1 : (g.ren (ak [] [])).ow k = .free := by simp [Gh.ren, ho, ak]
  obtain ⟨e1, e2⟩ := hf.free k b h1 hb
  exact ⟨.inl e1, fun _ => rfl, e2⟩
 | obj i => rw [ho] at hs; cases hs
 | out =>
  have h1 : (g.ren (ak [] [])).ow k = .out := by simp [Gh.ren, ho, ak]
  obtain ⟨e1, e2⟩ := hf.out k b h1 hb
  exact ⟨.inr e1, (fun h => by rw [e1] at h; cases h), e2⟩
 | box t =>
  have h1 : (g.ren (ak [] [])).ow k = .out := by simp [Gh.ren, ho, ak]
  obtain ⟨e1, e2⟩ := hf.out k b h1 hb
  exact ⟨.inr e1, (fun h => by rw [e1] at h; cases h), e2⟩
 | lst l =>
  have h1 : (g.ren (ak [] [])).ow k = .out := by
   cases l <;> simp [Gh.ren, ho, ak]
   rw [ho] at hs; cases hs
  obtain ⟨e1, e2⟩ := hf.out k b h1 hb
  exact ⟨.inr e1, (fun h => by rw [e1] at h; cases h), e2⟩
theorem qW {g g' : Gh} {w w' : World} {t : Nat} (hf : Fr false (g.ren (ak [] [])) w g' w') {o : Own} (ho : fA o = false) : az o g w ⟨fM w.heap.size t g.ow g'.ow, g'.ρ⟩ w' := fun k b h1 h2 => by
 have hlt : k < w.heap.size := (Array.getElem?_eq_some_iff.1 h2).1
 refine ⟨?_, (zZ hf h2 (by rw [h1]; exact ho)).2.2⟩
 simp only [fM]
 rw [if_pos ⟨hlt, by rw [h1]; exact ho⟩]
 exact h1
theorem oV {g g' : Gh} {w w' : World} {t : Nat} (hf : Fr false (g.ren (ak [] [])) w g' w') {k : Nat} {o : Own} (ho : o ≠ .out) (hk : g'.ow k = o) (hfree : o = .free → rp t o = .free) :
  (⟨fM w.heap.size t g.ow g'.ow, g'.ρ⟩ : Gh).ow k = rp t o := by
 simp only [fM]
 split
 ·rename_i h
  obtain ⟨b, hb⟩ : ∃ b, w.heap[k]? = some b := ⟨w.heap[k]'h.1, by simp [h.1]⟩
  obtain ⟨h1, h2, -⟩ := zZ hf hb h.2
  rcases h1 with h1 | h1
  ·rw [hk] at h1
   subst h1
   rw [hfree rfl]; exact h2 hk
  ·rw [hk] at h1; exact absurd h1 ho
 ·rw [hk]
theorem OW.yg {o : Oper} {c : Call} {f0 : FuncId} {args : List SV} {r : SV} {H' : List ar} (hw : cV ops st o = some true) (hop : o.op = .call c) (hc : jH P st [] c = some ⟨f0, args, [], []⟩) (hp : SC P false f0 args st.H r H')
  (hr : m6 r = true) (hn : st.tmps.all eh = true) (h : OW P false ops rest ⟨(st.put o.dst r).tmps, H'⟩ Q) : OW P false ops (o :: rest) st Q := by
 intro a w g hrel Qc hq
 unfold wpList
 rw [aN hrel hw, if_pos rfl]
 refine .inl ?_
 unfold jH at hc
 split at hc
 ·rename_i fo hcallee
  split at hc
  ·rename_i f first caps hfo
   split at hc
   ·rename_i ss ls gs hargs
    split at hc
    ·rename_i hok
     cases hc
     rw [Bool.and_eq_true] at hok
     obtain ⟨hgive, hfn⟩ := hok
     have hgs := iH hgive
     have hrf := bw hrel hfo
     obtain ⟨vf, vc, hev, lf, lc, rf, rc⟩ : ∃ vf vc : Array Value, a.eval fo = .func (.func f0) vf vc ∧ vf.size = first.length ∧ vc.size = caps.length ∧
       (∀ (j : Nat) (y : D), first[j]? = some y → ∃ u, vf[j]? = some u ∧ Rd g w u y) ∧ (∀ (j : Nat) (y : D), caps[j]? = some y → ∃ u, vc[j]? = some u ∧ Rd g w u y) := by
      generalize a.eval fo = v at hrf
      cases hrf with
      | fn hl1 hl2 us1 us2 hc1 hr1 hc2 hr2 => exact ⟨_, _, rfl, hl1, hl2, fun j y hj => ⟨us1 j, hc1 j y hj, hr1 j y hj⟩, fun j y hj => ⟨us2 j, hc2 j y hj, hr2 j y hj⟩⟩
     obtain ⟨la, ra⟩ := dW hrel hgs hargs (fun _ h => h) (fun _ h => h)
     have hexec : (execOp a.eval o).run P w = .ok (.enter f0 (vf ++ c.args.map a.eval ++ vc)) w := by
      unfold execOp
      rw [hop]
      exact l6 hcallee hev hfn w
     unfold Oper.wp
     rw [hexec, Oper.upon_enter]
     have hRA : fj (g.ren (ak [] [])) w (vf ++ c.args.map a.eval ++ vc) (first.map .d ++ ss ++ caps.map .d) := by
      have hla : (c.args.map a.eval).size = ss.length := by rw [← la]; simp
      have hla' : c.args.size = ss.length := by rw [← la]; simp
      refine ⟨by simp [lf, lc, ← la], fun j s hj => ?_⟩
      have kp : ∀ {v : Value} {d : D}, Rd g w v d → Rd (g.ren (ak [] [])) w v d := fun hr => hr.aG (az.ren rfl) (fun _ _ h => h)
      by_cases j1 : j < first.length
      ·rw [List.append_assoc, List.getElem?_append_left (by simpa using j1), List.getElem?_map] at hj
       simp only [Option.map_eq_some_iff] at hj
       obtain ⟨d, hd, rfl⟩ := hj
       obtain ⟨u, e1, e2⟩ := rf j d hd
       exact ⟨u, by rw [Array.append_assoc, Array.getElem?_append_left (by omega)]; exact e1, kp e2⟩
      ·by_cases j2 : j < first.length + ss.length
       ·rw [List.getElem?_append_left (by simp; omega), List.getElem?_append_right (by simp; omega)] at hj
        simp only [List.length_map] at hj
        obtain ⟨x, e1, e2⟩ := ra _ s hj
        refine ⟨a.eval x, ?_, by rw [show first.length + (j - first.length) = j by omega] at e2; exact e2⟩
        rw [Array.getElem?_append_left (by simp [lf]; omega), Array.getElem?_append_right (by omega), Array.getElem?_map, lf]
        rw [Array.getElem?_toList] at e1
        rw [e1]; rfl
       ·rw [List.getElem?_append_right (by simp; omega), List.getElem?_map] at hj
        simp only [Option.map_eq_some_iff, List.length_append, List.length_map] at hj
        obtain ⟨d, hd, rfl⟩ := hj
        obtain ⟨u, e1, e2⟩ := rc _ d hd
        refine ⟨u, ?_, kp e2⟩
        rw [Array.getElem?_append_right (by simp [lf]; omega)]
        simpa [lf, ← la] using e1
     have hRH0 : RH (g.ren (ak [] [])) w st.H := hrel.hp.aG (fun o' ho' => az.ren (by
      cases o' <;> simp only [gv] at ho' <;> try rfl
      rename_i l
      cases l <;> simp only [gv] at ho'
      rfl)) (fun _ _ h => h) rfl
     refine (hp w (g.ren (ak [] [])) _ hRA hRH0).mono fun e w' hh => ?_
     obtain ⟨v, g', rfl, hres, hRH, hf⟩ := hh
     have hρ' : ck g ⟨fM w.heap.size (o.dst.getD 0) g.ow g'.ow, g'.ρ⟩ := fun i k h => hf.rho i k h
     have hkp := fun o' ho' => qW (t := o.dst.getD 0) hf (o := o') ho'
     have hfr : Fr false g w ⟨fM w.heap.size (o.dst.getD 0) g.ow g'.ow, g'.ρ⟩ w' :=
      ⟨hf.size, hkp _ rfl, hkp _ rfl, hρ', (fun h => by cases h), (fun h => by cases h), (fun h => by cases h), hf.os⟩
     have h0 : az .free g' w' ⟨fM w.heap.size (o.dst.getD 0) g.ow g'.ow, g'.ρ⟩ w' := fun k b h1 h2 => ⟨oV hf (by simp) h1 (fun _ => rfl), h2⟩
     refine h (a.put o.dst v) w' _ ?_ Qc fun st2 a2 w2 g2 q2 r2 f2 => hq st2 a2 w2 g2 q2 r2 (hfr.trans f2)
     refine Rel.step hrel (by rw [cm]; simp only [St.eg]; exact hrel.len) (by rw [put_defers]; exact hrel.cH) hρ' (fun t s hs => ?_) ?_
     ·by_cases hd : o.dst = some t
      ·simp only at hs
       rw [hd] at hs ⊢
       obtain ⟨rfl, hlt⟩ := St.bU hs
       refine .inr (.inl ?_)
       rw [bb (by rw [hrel.len]; exact hlt)]
       simp only [Option.getD_some]
       rw [hd] at h0
       simp only [Option.getD_some] at h0
       have tag : ∀ l, (∀ i j, l ≠ .ai i j) → ∀ k b, g'.ow k = .lst l → w'.heap[k]? = some b → (⟨fM w.heap.size t g.ow g'.ow, g'.ρ⟩ : Gh).ow k = rp t (.lst l) := fun l hl k b hk _ => oV hf (by simp) hk (by simp)
       cases hrr : s with
       | d x => rw [hrr] at hres; exact Rd.aG h0 (fun _ _ h => h) (hres : Rd g' w' v x)
       | own n xs =>
        rw [hrr] at hres
        exact (RC.back h0 (tag (.slot 0) (by simp)) (fun _ _ h => h) (hres : RC g' w' (.slot 0) v (.own n xs)) : RC _ _ (.slot t) v (.own n xs))
       | tup vs =>
        rw [hrr] at hres hr
        obtain ⟨us, e1, e2, e3⟩ := hres
        refine ⟨us, e1, e2, fun j s' hj => ?_⟩
        obtain ⟨u, f1, f2⟩ := e3 j s' hj
        exact ⟨u, f1, RC.back h0 (tag (.comp 0 j) (by simp)) (fun _ _ h => h) f2⟩
       | _ => rw [hrr] at hr; simp [m6] at hr
      ·simp only at hs
       have hput : s = .undef ∨ (st.tmps[t]? = some s ∧ ∀ t0 old, o.dst = some t0 → st.tmps[t0]? = some old → mv old = true → bV t0 s = false) := by
        cases hdst : o.dst with
        | none => rw [hdst] at hs; exact .inr ⟨hs, by simp⟩
        | some t0 =>
         rw [hdst] at hs hd
         rcases St.gU (fun e => hd (by rw [e])) hs with h | ⟨h1, h2⟩
         ·exact .inl h
         ·exact .inr ⟨h1, fun t1 old e => by cases e; exact h2 old⟩
       rcases hput with rfl | ⟨hs3, hs2⟩
       ·exact .inl rfl
       ·have hnh : eh s = true := List.all_eq_true.1 hn s (List.mem_iff_getElem?.2 ⟨t, hs3⟩)
        refine .inr (.inr ⟨hs3, bj hd, fun o' ho' => hkp o' ?_, fun s0 e => ?_⟩)
        ·cases o' with
         | obj i =>
          exfalso
          cases s <;> simp [eS] at ho'
         | lst l =>
          cases l with
          | ai i j =>
           exfalso
           cases s <;> simp [eS] at ho'
           ·subst ho'; simp [eh] at hnh
           ·subst ho'; simp [eh] at hnh
          | _ => rfl
         | _ => rfl
        ·obtain ⟨x0, hx0, hb0⟩ := gr (hrel.tmp t _ hs3) e
         have hd0 : o.dst ≠ some s0 := fun e2 => by
          have := hs2 s0 _ e2 hx0 (dV hb0)
          rw [bJ e] at this
          cases this
         exact ⟨bj hd0, fun x hx hb => ⟨x, St.gj hx hb hd0, rfl⟩⟩
     ·refine RH.aG (g := g') (w := w') (fun o' ho' => ?_) (fun _ _ h => h) rfl hRH
      intro k b h1 h2
      refine ⟨?_, h2⟩
      cases o' with
      | free => exact oV hf (by simp) h1 (fun _ => rfl)
      | obj i => exact oV hf (by simp) h1 (fun h => by cases h)
      | lst l =>
       cases l <;> simp only [gv] at ho'
       exact oV hf (by simp) h1 (fun h => by cases h)
      | _ => exact ho'.elim
    ·cases hc
   ·cases hc
  ·cases hc
 ·cases hc
end
end Go.Sh
namespace Go.Sh
inductive Pn (α : Type) where
 | ok (a : α)
 | CJ (t : TypeId) (H : List ar)
def CA (t : TypeId) : List PanicEntry := [{ v := .iface t (.agg #[]), recovered := false }]
def SB (P : Program) (f : FuncId) (args : List SV) (H : List ar) (o : Pn (SV × List ar)) : Prop :=
 ∀ (w : World) (g : Gh) (vs : Array Value), fj g w vs args → RH g w H → Calls P f vs w fun e w' => match o with
  | .ok p => ∃ v g', e = .returned v ∧ nu g' w' v p.1 ∧ RH g' w' p.2 ∧ Fr false g w g' w'
  | .CJ t H' => e = .panicked (CA t) ∧ ∃ g', RH g' w' H' ∧ Fr false g w g' w'
theorem SB.sc {P : Program} {f : FuncId} {args : List SV} {H : List ar} {r : SV} {H' : List ar} (h : SB P f args H (.ok (r, H'))) : SC P false f args H r H' := h
section
variable {P : Program} {ops : Array Oper} {st : St}
theorem SC.ga {f : FuncId} {fn : Func} {c : Code} {args : List SV} {H H' : List ar} {r : SV} (hf : P.funcs[f]? = some fn) (hb : fn.body = some c)
  (h : SW P false c (fJ fn.ntmps args H) (aA P fn.results.toList H' r)) : SC P false f args H r H' := by
 refine SC.br hf hb ?_
 intro a w g hr
 refine Code.wp_mono (fun e a' w' hh => ?_) (h a w g hr)
 obtain ⟨st', g', ⟨he, l, h1, h2⟩, r1, f⟩ := hh
 exact ⟨st'.gD l, g', ⟨he, mC h1, by rw [St.rM]; exact h2⟩, r1.gD, f⟩
def OT (P : Program) (ops : Array Oper) (l : List Oper) (st : St) (Q : Exit → St → Prop) : Prop :=
 ∀ a w g, Rel st a w g → wpList P ops (fun e a' w' => ∃ st' g', Q e st' ∧ Rel st' a' w' g' ∧ Fr false g w g' w') l a w
def OTk (P : Program) (ops : Array Oper) (k : Nat) (st : St) (Q : Exit → St → Prop) : Prop := OT P ops (ops.toList.drop k) st Q
theorem OTk.done {k : Nat} {Q : Exit → St → Prop} (h : decide (ops.size ≤ k) = true) (hq : Q .normal st) : OTk P ops k st Q := by
 intro a w g hr
 rw [List.drop_of_length_le (by simpa using of_decide_eq_true h)]
 exact ⟨st, g, hq, hr, Fr.refl _ _ _⟩
theorem su {o : Oper} {a : Act} {next : Act → World → Prop} {Q Q' : Exit → Act → World → Prop} (hp : ∀ ch a w, Q (.panic ch) a w → Q' (.panic ch) a w) (ho : LetsOut Q → LetsOut Q') {r : Result Next} (h : o.upon P a next Q r) : o.upon P a next Q' r := by
 cases r with
 | ok n w' =>
  cases n <;> simp only [Oper.upon] at h ⊢ <;> first
   | exact h
   | (refine h.mono fun e w'' hh => ?_
      cases e with
     | returned v => exact hh
     | panicked ch => exact hp _ _ _ hh
     | outgrown => exact ho hh)
 | halt hh w' => cases hh <;> simp only [Oper.upon] at h ⊢ <;> first | exact h | exact hp _ _ _ h
theorem ln {Q : Exit → Act → World → Prop} (l2 : List Oper) : ∀ (l1 : List Oper) (a : Act) (w : World), wpList P ops (Exit.then (wpList P ops Q l2) Q) l1 a w → wpList P ops Q (l1 ++ l2) a w
 | [], a, w, h => h
 | o :: l1, a, w, h => by
  rw [List.cons_append]
  unfold wpList at h ⊢
  split
  ·rename_i hw
   rw [if_pos hw] at h
   rcases h with h | h
   ·left
    have h1 := Oper.wp_mono (K' := wpList P ops Q (l1 ++ l2)) (fun a' w' hh => ln l2 l1 a' w' hh) h
    exact su (fun ch a w h => h) (fun ⟨a0, w0, h⟩ => ⟨a0, w0, h⟩) h1
   ·exact .inr ⟨h.1, let ⟨a0, w0, h2⟩ := h.2; ⟨a0, w0, h2⟩⟩
  ·rename_i hw
   rw [if_neg hw] at h
   exact ln l2 l1 _ w h
theorem lk {ops' : Array Oper} {Q : Exit → Act → World → Prop} : ∀ (l : List Oper) (a : Act) (w : World), (∀ o ∈ l, ∀ j b, o.guard = some (j, b) → ops'[j]? = ops[j]?) → wpList P ops' Q l a w → wpList P ops Q l a w
 | [], a, w, _, h => h
 | o :: l, a, w, hg, h => by
  have e : Region.wanted o (yielded ops' a.tmps) = Region.wanted o (yielded ops a.tmps) := by
   unfold Region.wanted
   cases ho : o.guard with
   | none => rfl
   | some p =>
    obtain ⟨j, b⟩ := p
    simp only [yielded, hg o List.mem_cons_self j b ho]
  have hg' : ∀ o ∈ l, ∀ j b, o.guard = some (j, b) → ops'[j]? = ops[j]? := fun o ho => hg o (List.mem_cons_of_mem _ ho)
  unfold wpList at h ⊢
  rw [e] at h
  split
  ·rename_i hw
   rw [if_pos hw] at h
   rcases h with h | h
   ·exact .inl (Oper.wp_mono (fun a' w' hh => lk l a' w' hg' hh) h)
   ·exact .inr h
  ·rename_i hw
   rw [if_neg hw] at h
   exact lk l _ w hg' h
def rV (ops : Array Oper) (k m : Nat) : Bool := decide (k ≤ m) && decide (m ≤ ops.size) && ((ops.toList.take m).drop k).all fun o => match o.guard with | some (j, _) => decide (j < m) | none => true
theorem OTk.pre {k : Nat} (m : Nat) {Q : Exit → St → Prop} (hg : rV ops k m = true) (h : OWk P false (ops.toList.take m).toArray k st (fun s => OTk P ops m s Q)) : OTk P ops k st Q := by
 intro a w g hr
 simp only [rV, Bool.and_eq_true, decide_eq_true_eq, List.all_eq_true] at hg
 obtain ⟨⟨h1, h2⟩, h3⟩ := hg
 have hsplit : ops.toList.drop k = (ops.toList.take m).drop k ++ ops.toList.drop m := by
  conv => lhs; rw [← List.take_append_drop m ops.toList]
  rw [List.drop_append_of_le_length (by simp; omega)]
 rw [hsplit]
 refine ln _ _ a w (lk _ a w (fun o ho j b hj => ?_) ?_ (ops' := (ops.toList.take m).toArray))
 ·have := h3 o ho
  rw [hj] at this
  have hlt : j < m := of_decide_eq_true this
  simp [List.getElem?_take, hlt]
 ·unfold OWk at h
  refine h a w g hr _ fun st' a' w' g' q r f => ?_
  have := q a' w' g' r
  show wpList P ops _ (ops.toList.drop m) a' w'
  refine jg (fun e a2 w2 hh => ?_) this
  obtain ⟨st2, g2, q2, r2, f2⟩ := hh
  exact ⟨st2, g2, q2, r2, f.trans f2⟩
where
 jg {ops : Array Oper} {Q Q' : Exit → Act → World → Prop} (hq : ∀ e a w, Q e a w → Q' e a w) : ∀ {l : List Oper} {a : Act} {w : World}, wpList P ops Q l a w → wpList P ops Q' l a w
  | [], a, w, h => hq _ _ _ h
  | o :: l, a, w, h => by
   unfold wpList at h ⊢
   split
   ·rename_i hw
    rw [if_pos hw] at h
    rcases h with h | h
    ·left
     have h1 := Oper.wp_mono (K' := wpList P ops Q' l) (fun a' w' hh => jg hq hh) h
     exact su (fun ch a w h => hq _ _ _ h) (fun ⟨a0, w0, h⟩ => ⟨a0, w0, hq _ _ _ h⟩) h1
    ·exact .inr ⟨h.1, let ⟨a0, w0, h2⟩ := h.2; ⟨a0, w0, hq _ _ _ h2⟩⟩
   ·rename_i hw
    rw [if_neg hw] at h
    exact jg hq h
end
end Go.Sh
namespace Go.Sh
section
variable {P : Program} {ops : Array Oper} {k : Nat} {st : St}
theorem OWk.clH {Q : St → Prop} {f : FuncId} {args : List SV} {d : Option Tmp} {r : SV} {H' : List ar} (n : Nat) (L : List Nat) (l : List (Nat × SV)) (hp : SC P false f args st.H r H')
  (h : dE P ops k st [] = some (d, f, args, [], [])) (hr : (m6 r && st.tmps.all eh) = true) (hst : aV n L ⟨(st.put d r).tmps, H'⟩ = some (l, H')) (hn : OWk P false ops (k + 1) (sp n l H') Q) : OWk P false ops k st Q := by
 unfold dE at h
 split at h
 ·rename_i o ho
  split at h
  ·rename_i c hop
   split at h
   ·rename_i cs hcs
    simp only [Option.some.injEq, Prod.mk.injEq] at h
    obtain ⟨rfl, rfl, rfl, e1, e2⟩ := h
    obtain ⟨h1, h2⟩ := aW ho
    rw [Bool.and_eq_true] at hr
    obtain ⟨f0, a0, l0, g0⟩ := cs
    cases e1; cases e2
    unfold OWk
    rw [drop_cons h1]
    exact OW.yg h2 hop hcs hp hr.1 hr.2 (OWk.aG L (ay hst) hn)
   ·cases h
  ·cases h
 ·cases h
theorem rj {a : Act} {w : World} {g : Gh} {o : Oper} {c : Call} {f0 : FuncId} {args : List SV} (hrel : Rel st a w g) (hop : o.op = .call c) (hc : jH P st [] c = some ⟨f0, args, [], []⟩) :
  ∃ vs, (execOp a.eval o).run P w = .ok (.enter f0 vs) w ∧ fj (g.ren (ak [] [])) w vs args ∧ RH (g.ren (ak [] [])) w st.H := by
 unfold jH at hc
 split at hc
 ·rename_i fo hcallee
  split at hc
  ·rename_i f first caps hfo
   split at hc
   ·rename_i ss ls gs hargs
    split at hc
    ·rename_i hok
     cases hc
     rw [Bool.and_eq_true] at hok
     obtain ⟨hgive, hfn⟩ := hok
     have hgs := iH hgive
     have hrf := bw hrel hfo
     obtain ⟨vf, vc, hev, lf, lc, rf, rc⟩ : ∃ vf vc : Array Value, a.eval fo = .func (.func f0) vf vc ∧ vf.size = first.length ∧ vc.size = caps.length ∧
       (∀ (j : Nat) (y : D), first[j]? = some y → ∃ u, vf[j]? = some u ∧ Rd g w u y) ∧ (∀ (j : Nat) (y : D), caps[j]? = some y → ∃ u, vc[j]? = some u ∧ Rd g w u y) := by
      generalize a.eval fo = v at hrf
      cases hrf with
      | fn hl1 hl2 us1 us2 hc1 hr1 hc2 hr2 => exact ⟨_, _, rfl, hl1, hl2, fun j y hj => ⟨us1 j, hc1 j y hj, hr1 j y hj⟩, fun j y hj => ⟨us2 j, hc2 j y hj, hr2 j y hj⟩⟩
     obtain ⟨la, ra⟩ := dW hrel hgs hargs (fun _ h => h) (fun _ h => h)
     refine ⟨vf ++ c.args.map a.eval ++ vc, ?_, ?_, ?_⟩
     ·unfold execOp
      rw [hop]
      exact l6 hcallee hev hfn w
     ·have hla : (c.args.map a.eval).size = ss.length := by rw [← la]; simp
      have hla' : c.args.size = ss.length := by rw [← la]; simp
      refine ⟨by simp [lf, lc, ← la], fun j s hj => ?_⟩
      have kp : ∀ {v : Value} {d : D}, Rd g w v d → Rd (g.ren (ak [] [])) w v d := fun hr => hr.aG (az.ren rfl) (fun _ _ h => h)
      by_cases j1 : j < first.length
      ·rw [List.append_assoc, List.getElem?_append_left (by simpa using j1), List.getElem?_map] at hj
       simp only [Option.map_eq_some_iff] at hj
       obtain ⟨d, hd, rfl⟩ := hj
       obtain ⟨u, e1, e2⟩ := rf j d hd
       exact ⟨u, by rw [Array.append_assoc, Array.getElem?_append_left (by omega)]; exact e1, kp e2⟩
      ·by_cases j2 : j < first.length + ss.length
       ·rw [List.getElem?_append_left (by simp; omega), List.getElem?_append_right (by simp; omega)] at hj
        simp only [List.length_map] at hj
        obtain ⟨x, e1, e2⟩ := ra _ s hj
        refine ⟨a.eval x, ?_, by rw [show first.length + (j - first.length) = j by omega] at e2; exact e2⟩
        rw [Array.getElem?_append_left (by simp [lf]; omega), Array.getElem?_append_right (by omega), Array.getElem?_map, lf]
        rw [Array.getElem?_toList] at e1
        rw [e1]; rfl
       ·rw [List.getElem?_append_right (by simp; omega), List.getElem?_map] at hj
        simp only [Option.map_eq_some_iff, List.length_append, List.length_map] at hj
        obtain ⟨d, hd, rfl⟩ := hj
        obtain ⟨u, e1, e2⟩ := rc _ d hd
        refine ⟨u, ?_, kp e2⟩
        rw [Array.getElem?_append_right (by simp [lf]; omega)]
        simpa [lf, ← la] using e1
     ·exact hrel.hp.aG (fun o' ho' => az.ren (by
       cases o' <;> simp only [gv] at ho' <;> try rfl
       rename_i l
       cases l <;> simp only [gv] at ho'
       rfl)) (fun _ _ h => h) rfl
    ·cases hc
   ·cases hc
  ·cases hc
 ·cases hc
theorem iu {g g' : Gh} {w w' : World} {H' : List ar} (t : Nat) (hf : Fr false (g.ren (ak [] [])) w g' w') (hH : RH g' w' H') :
  Fr false g w ⟨fM w.heap.size t g.ow g'.ow, g'.ρ⟩ w' ∧ RH ⟨fM w.heap.size t g.ow g'.ow, g'.ρ⟩ w' H' := by
 have hkp := fun o' ho' => qW (t := t) hf (o := o') ho'
 refine ⟨⟨hf.size, hkp _ rfl, hkp _ rfl, fun i k h => hf.rho i k h, (fun h => by cases h), (fun h => by cases h), (fun h => by cases h), hf.os⟩, ?_⟩
 refine RH.aG (g := g') (w := w') (fun o' ho' => ?_) (fun _ _ h => h) rfl hH
 intro k b h1 h2
 refine ⟨?_, h2⟩
 cases o' with
 | free => exact oV hf (by simp) h1 (fun _ => rfl)
 | obj i => exact oV hf (by simp) h1 (fun h => by cases h)
 | lst l =>
  cases l <;> simp only [gv] at ho'
  exact oV hf (by simp) h1 (fun h => by cases h)
 | _ => exact ho'.elim
end
section
variable {P : Program} {rs : List ResultVar} {s : St} {α : Type} {e : α → SV} {a : α} {H : Hp}
end
end Go.Sh
namespace Go.Sh
def eB (a : Act) (ds : List Deferred) : Act := { a with defers := a.defers ++ ds }
def MQ (ds : List Deferred) (Q : Exit → Act → World → Prop) : Exit → Act → World → Prop := fun e a w => ∃ a0, a = eB a0 ds ∧ Q e a0 w
def MN (ds : List Deferred) (N : Act → World → Prop) : Act → World → Prop := fun a w => ∃ a0, a = eB a0 ds ∧ N a0 w
theorem pr (a : Act) (ds : List Deferred) : (eB a ds).eval = a.eval := by funext x; cases x <;> rfl
theorem kT (a : Act) (ds : List Deferred) (d : Option Tmp) (v : Value) : (eB a ds).put d v = eB (a.put d v) ds := by cases d <;> rfl
theorem uG (a : Act) (ds : List Deferred) : (eB a ds).tmps = a.tmps := rfl
theorem MQ.out {ds : List Deferred} {Q : Exit → Act → World → Prop} (h : LetsOut Q) : LetsOut (MQ ds Q) := let ⟨a0, w0, h⟩ := h; ⟨eB a0 ds, w0, a0, rfl, h⟩
section
variable {P : Program} {ops : Array Oper} {ds : List Deferred}
theorem wg {o : Oper} {a : Act} {N : Act → World → Prop} {Q : Exit → Act → World → Prop} {r : Result Next} (h : o.upon P a N Q r) : o.upon P (eB a ds) (MN ds N) (MQ ds Q) r := by
 cases r with
 | ok n w' =>
  cases n <;> simp only [Oper.upon] at h ⊢ <;> first
   | exact h.elim
   | exact ⟨_, kT _ _ _ _, h⟩
   | (refine h.mono fun e w'' hh => ?_
      cases e with
     | returned v => exact ⟨_, kT _ _ _ _, hh⟩
     | panicked ch => exact ⟨_, rfl, hh⟩
     | outgrown => exact MQ.out hh)
   | (refine Rows.mono h fun v w'' hh => ⟨_, kT _ _ _ _, hh⟩)
   | (refine ⟨_, ?_, h⟩; cases o.dst <;> rfl)
 | halt hh w' => cases hh <;> simp only [Oper.upon] at h ⊢ <;> first | exact ⟨_, rfl, h⟩ | exact h.elim
theorem yL {o : Oper} {a : Act} {w : World} {N : Act → World → Prop} {Q : Exit → Act → World → Prop} (h : o.wp P a w N Q) : o.wp P (eB a ds) w (MN ds N) (MQ ds Q) := by
 unfold Oper.wp at h ⊢
 rw [pr]
 exact wg h
theorem wO {o : Oper} {a : Act} {w : World} (h : o.asks P a w) : o.asks P (eB a ds) w := by
 unfold Oper.asks at h ⊢
 rw [pr]
 exact h
theorem jQ {Q : Exit → Act → World → Prop} : ∀ (l : List Oper) (a : Act) (w : World), wpList P ops Q l a w → wpList P ops (MQ ds Q) l (eB a ds) w
 | [], a, w, h => ⟨a, rfl, h⟩
 | o :: l, a, w, h => by
  unfold wpList at h ⊢
  rw [uG]
  split
  ·rename_i hw
   rw [if_pos hw] at h
   rcases h with h | h
   ·refine .inl (Oper.wp_mono (fun a1 w1 hh => ?_) (yL (ds := ds) h))
    obtain ⟨a0, rfl, h0⟩ := hh
    exact jQ l a0 w1 h0
   ·exact .inr ⟨wO h.1, MQ.out h.2⟩
  ·rename_i hw
   rw [if_neg hw] at h
   rw [kT]
   exact jQ l _ w h
end
theorem AD {P : Program} {pu : Bool} {fn : Func} {st' : St} {a' : Act} {w' : World} {g' : Gh} {r : SV} (hr : Rel st' a' w' g') (he : vQ P fn.results.toList st' r) :
  ∃ v g2, (results fn a'.tmps).run P w' = .ok v w' ∧ nu g2 w' v r ∧ RH g2 w' st'.H ∧ Fr pu g' w' g2 w' := by
 obtain ⟨xs, hx1, hx2, hx3, hx4⟩ := he
 obtain ⟨hl, hg⟩ := mZ hx1
 -- the values, one by one
 have one : ∀ j, j < xs.length → ∃ v, (∀ s t, xs[j]? = some (s, t) → RC (g'.ren (eo xs)) w' (eU xs.length j) v s) ∧ ∀ rv, fn.results[j]? = some rv → (fC a'.tmps rv).run P w' = .ok v w' := fun j hj => by
  obtain ⟨rv, e1, e2⟩ := hg j xs[j] (by simp [hj])
  obtain ⟨v, f1, f2⟩ := o8 (P := P) hr (s := xs[j].1) (t := xs[j].2) e2 (f := eo xs) rfl (eU xs.length j)
   (fun t' ht' => by
    have := qH hx2 (j := j) (s := xs[j].1) (t := t') (by rw [List.getElem?_eq_getElem hj]; rw [← ht'])
    simp only [eo, this])
   (fun s' hs' t' n ys hlent => by
    subst hs'
    unfold rQ at hx3
    rw [List.all_eq_true] at hx3
    have := hx3 (.tmp s') (List.mem_iff_getElem?.2 ⟨j, e1⟩)
    simp only [hlent, Option.isNone_iff_eq_none] at this
    simp only [eo, this])
  refine ⟨v, fun s t hst => ?_, fun rv' hrv' => ?_⟩
  ·rw [List.getElem?_eq_getElem hj] at hst
   have : xs[j] = (s, t) := Option.some.inj hst
   rw [this] at f1
   exact f1
  ·have : rv' = rv := by
    have e1' : fn.results[j]? = some rv := by simpa using e1
    rw [hrv'] at e1'
    exact Option.some.inj e1'
   subst this
   exact f2
 -- all of them
 have all : ∃ us : List Value, us.length = xs.length ∧ (∀ (j : Nat) (s : SV) (t : Option Nat), xs[j]? = some (s, t) → ∃ u, us[j]? = some u ∧ RC (g'.ren (eo xs)) w' (eU xs.length j) u s) ∧
   ∀ (j : Nat) (rv : ResultVar), fn.results[j]? = some rv → ∃ v, us[j]? = some v ∧ (fC a'.tmps rv).run P w' = .ok v w' := by
  have : ∃ F : Nat → Value, ∀ j, j < xs.length → (∀ s t, xs[j]? = some (s, t) → RC (g'.ren (eo xs)) w' (eU xs.length j) (F j) s) ∧ ∀ rv, fn.results[j]? = some rv → (fC a'.tmps rv).run P w' = .ok (F j) w' :=
   ⟨fun j => if hj : j < xs.length then Classical.choose (one j hj) else undef, fun j hj => by simp only [hj, dite_true]; exact Classical.choose_spec (one j hj)⟩
  obtain ⟨F, hF⟩ := this
  refine ⟨(List.range xs.length).map F, by simp, fun j s t hj => ⟨F j, by simp [aD hj], (hF j (aD hj)).1 s t hj⟩, fun j rv hj => ?_⟩
  have hlt : j < xs.length := by rw [← hl]; simpa using (Array.getElem?_eq_some_iff.1 hj).1
  exact ⟨F j, by simp [hlt], (hF j hlt).2 rv hj⟩
 obtain ⟨us, u1, u2, u3⟩ := all
 have hrun := gy (P := P) (fn := fn) (tm := a'.tmps) (w := w') (vs := us) (by rw [u1, ← hl]; simp) u3
 have hfr' : Fr pu g' w' (g'.ren (eo xs)) w' := ⟨Nat.le_refl _, az.ren rfl, az.ren rfl, fun _ _ h => h, fun _ i => az.ren rfl, fun _ i j => az.ren rfl, fun _ => rfl, ⟨rfl, rfl⟩⟩
 have hRH : RH (g'.ren (eo xs)) w' st'.H := by
  refine RH.aG (g := g') (w := w') (fun o ho => ?_) (fun _ _ h => h) rfl hr.hp
  refine az.ren ?_
  cases o <;> simp only [gv] at ho <;> try rfl
  rename_i l
  cases l <;> simp only [gv] at ho
  rfl
 have hres : nu (g'.ren (eo xs)) w' (if h : us.toArray.size = 1 then us.toArray[0] else .tuple us.toArray) r := by
  rw [← hx4]
  match xs, u1, u2 with
  | [x], u1, u2 =>
   match us, u1 with
   | [u], _ =>
    obtain ⟨u', e1, e2⟩ := u2 0 x.1 x.2 (by simp)
    simp only [List.getElem?_cons_zero, Option.some.injEq] at e1
    subst e1
    simp only [List.size_toArray, List.length_cons, List.length_nil, Nat.zero_add, dite_true, yY]
    have e2 : RC (g'.ren (eo [x])) w' (.slot 0) u x.1 := e2
    have : nu (g'.ren (eo [x])) w' u x.1 := by
     obtain ⟨s, t⟩ := x
     cases s <;> first | exact e2 | exact e2.elim
    simpa using this
  | [], u1, u2 =>
   match us, u1 with
   | [], _ => exact ⟨#[], by simp, rfl, by simp⟩
  | x :: y :: r', u1, u2 =>
   have hne : ¬ us.toArray.size = 1 := by simp [u1]
   rw [dif_neg hne]
   refine ⟨us.toArray, rfl, by simp [u1], fun j s hj => ?_⟩
   simp only [List.getElem?_map, Option.map_eq_some_iff] at hj
   obtain ⟨⟨s', t⟩, h1, h2⟩ := hj
   simp only at h2
   subst h2
   obtain ⟨u, e1, e2⟩ := u2 j s' t h1
   rw [show eU (x :: y :: r').length j = .comp 0 j by simp [eU]] at e2
   exact ⟨u, by simpa using e1, e2⟩
 exact ⟨_, _, hrun, hres, hRH, hfr'⟩
end Go.Sh
namespace Go.Sh
section
variable {P : Program} {ops : Array Oper} {ds : List Deferred} {st : St} {k : Nat} {Q : Exit → St → Prop}
def SWd (P : Program) (ds : List Deferred) (c : Code) (st : St) (Q : Exit → St → Prop) : Prop :=
 ∀ a w g, Rel st a w g → c.wp P (fun e a' w' => ∃ a0 st' g', a' = eB a0 ds ∧ Q e st' ∧ Rel st' a0 w' g' ∧ Fr false g w g' w') (eB a ds) w
theorem SWd.seq {x y : Code} (h : SWd P ds x st (thenS (fun s => SWd P ds y s Q) Q)) : SWd P ds (.seq x y) st Q := by
 intro a w g hr
 refine wp_seq (Code.wp_mono (fun e a' w' hh => ?_) (h a w g hr))
 obtain ⟨a0, st', g', rfl, q, r, f⟩ := hh
 cases e with
 | normal =>
  refine Code.wp_mono (fun e2 a2 w2 hh2 => ?_) (q a0 w' g' r)
  obtain ⟨a1, st2, g2, e2, q2, r2, f2⟩ := hh2
  exact ⟨a1, st2, g2, e2, q2, r2, f.trans f2⟩
 | _ => exact ⟨a0, st', g', rfl, q, r, f⟩
theorem SWd.ret (h : Q .ret st) : SWd P ds .ret st Q := fun a w g hr => wp_ret ⟨a, st, g, rfl, h, hr, Fr.refl _ _ _⟩
theorem SWd.region {id : Nat} (h : OTk P ops 0 st Q) : SWd P ds (.region id ops false) st Q := fun a w g hr => by
 have h1 := h a w g hr
 rw [List.drop_zero] at h1
 refine Code.wp_mono (fun e a' w' hh => ?_) (wp_region_list (jQ (ds := ds) _ a w h1))
 obtain ⟨a0, e0, st', g', q, r, f⟩ := hh
 exact ⟨a0, st', g', e0, q, r, f⟩
theorem Rel.yg {a : Act} {w w' : World} {g g' : Gh} {H' : List ar} (t : Nat) (hrel : Rel st a w g) (hf : Fr false (g.ren (ak [] [])) w g' w') (hH : RH g' w' H') (hn : st.tmps.all eh = true) :
  Rel ⟨st.tmps, H'⟩ a w' ⟨fM w.heap.size t g.ow g'.ow, g'.ρ⟩ := by
 have hkp := fun o' ho' => qW (t := t) hf (o := o') ho'
 refine Rel.step hrel hrel.len hrel.cH (fun i k h => hf.rho i k h) (fun t s hs => ?_) (iu t hf hH).2
 have hnh : eh s = true := List.all_eq_true.1 hn s (List.mem_iff_getElem?.2 ⟨t, hs⟩)
 refine .inr (.inr ⟨hs, rfl, fun o' ho' => hkp o' ?_, fun s0 e => ?_⟩)
 ·cases o' with
  | obj i =>
   exfalso
   cases s <;> simp [eS] at ho'
  | lst l =>
   cases l with
   | ai i j =>
    exfalso
    cases s <;> simp [eS] at ho'
    ·subst ho'; simp [eh] at hnh
    ·subst ho'; simp [eh] at hnh
   | _ => rfl
  | _ => rfl
 ·obtain ⟨x0, hx0, hb0⟩ := gr (hrel.tmp t _ hs) e
  exact ⟨rfl, fun x hx hb => ⟨x, hx, rfl⟩⟩
end
end Go.Sh
namespace Go.Sh
section
variable {P : Program} {ops : Array Oper} {k : Nat} {st : St}
end
end Go.Sh
namespace Go.Sh
end Go.Sh
namespace Go.Sh
end Go.Sh
