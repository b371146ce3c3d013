/- The operations that only read (bop), and what they yield in every world that has grown. -/
import Derived.Test.YtjkhgfoecplbgaaSh4
import Derived.Laws.Slices
import Derived.Laws.Strings
import Derived.Laws.Build
set_option linter.all false
set_option autoImplicit true
set_option relaxedAutoImplicit true
namespace Go.Sh

section
variable (P : Program)

def isStrT (T : TypeId) : Bool := match P.underlying T with | some .string => true | _ => false

/-- A list that may be read: who lends it, its elements' cells, its elements. -/
def listOf (st : St) : Operand → Option (Option Loc × Nat × List D)
  | .tmp s => match st.tmps[s]? with
    | some (.d (.list n xs)) => some (none, n, xs)
    | some (.d .nilS) => some (none, 0, [])
    | some (.lent l n xs) => some (some l, n, xs)
    | some (.own n xs) => some (some (.slot s), n, xs)
    | some (.pin _ n xs) => some (some (.slot s), n, xs)
    | _ => none
  | .const (.slice none 0 0) => some (none, 0, [])
  | _ => none

/-- A pointer into cells of data: who lends them. -/
def ptrOf (st : St) : Operand → Option (Option Loc × List D)
  | .tmp s => match st.tmps[s]? with
    | some (.d (.dptr cs)) => some (none, cs)
    | some (.lptr l cs) => some (some l, cs)
    | _ => none
  | _ => none

def lendP : Option Loc → List D → SV
  | none, cs => .d (.dptr cs)
  | some l, cs => .lptr l cs

def lendL : Option Loc → Nat → List D → SV
  | none, n, xs => .d (.list n xs)
  | some l, n, xs => .lent l n xs

def intOf? (st : St) (x : Operand) : Option (IntKind × Int) := match valD st x with | some (.int k n) => some (k, n) | _ => none

def ptrH (st : St) (x : Operand) : Option (Nat × Nat) := match valD st x with | some (.ptr i off) => some (i, off) | _ => none

def fieldOff (S : TypeId) (f : Nat) : Option Nat :=
  match P.underlying S with
  | some (.struct fs) => match fs[f]? with
    | some fl => if P.cellsOf fl.type = 0 then none else some fl.offset
    | none => none
  | _ => none

/-- A part of a struct or an array that is a value. -/
def partD (T : TypeId) (cs : List D) (off : Nat) : Option D :=
  if (P.underlying T).isNone then none
  else if isAggT P T then some (.agg ((cs.drop off).take (P.cellsOf T)))
  else cs[off]?

def boolOp (op : BinOp) (e l : Bool) : Option Bool :=
  match op with
  | .eql => some e
  | .neq => some (!e)
  | .lss => some l
  | .leq => some (l || e)
  | .gtr => some !(l || e)
  | .geq => some !l
  | _ => none

/-- Two leaves of one type are equal. -/
def eqLeaf : Option TypeDesc → D → D → Option Bool
  | some .bool, .bool a, .bool b => some (a == b)
  | some (.int _), .int k a, .int k' b => if k = k' then some (a == b) else none
  | some .string, .str a, .str b => some (a == b)
  | _, _, _ => none

/-- Two structs of leaves, field by field; 'i': the place of the first. -/
def eqFs (i : Nat) : List Field → List D → List D → Option Bool
  | [], [], [] => some true
  | f :: fs, x :: xs, y :: ys =>
    if f.name != "_" && f.offset == i then
      match eqLeaf (P.underlying f.type) x y, eqFs (i + 1) fs xs ys with
      | some a, some b => some (a && b)
      | _, _ => none
    else none
  | _, _, _ => none

def eqAgg (T : TypeId) (a b : List D) : Option Bool :=
  match P.underlying T with
  | some (.struct fs) => if !P.stoodInHeld T && !P.eqGuardType P.depth T then eqFs P 0 fs.toList a b else none
  | _ => none

/-- Of what kind is something that is surely not nil: a pointer, an interface value, a function, a map. -/
def someK : SV → Nat
  | .d (.dptr _) | .d (.ptr _ _) | .loc _ _ | .lptr _ _ | .box _ => 1
  | .d (.iface _ _) => 2
  | .d (.fn _ _ _) => 3
  | .d (.map _) => 4
  | _ => 0

def nilK : D → Nat
  | .nilPtr => 1
  | .nilIface => 2
  | .nilFn => 3
  | .nilMap => 4
  | _ => 0

def typK (T : TypeId) : Nat :=
  match P.underlying T with
  | some (.pointer _) => 1
  | some (.interface _) => 2
  | some (.func ..) => 3
  | some (.map ..) => 4
  | _ => 5

/-- Something against nil, at a pointer's, an interface's, a function's, a map's type. -/
def nilEq (st : St) (T : TypeId) (x y : Operand) : Bool :=
  match val st x, valD st y with
  | some s, some d => someK s == typK P T && nilK d == typK P T
  | _, _ => false

def binS (st : St) (op : BinOp) (T : TypeId) (x y : Operand) : Option D :=
  match valD st x, valD st y with
  | some (.str a), some (.str b) =>
    if op matches .add then (if a.length + b.length ≤ maxLen then some (.str (a ++ b)) else none)
    else (boolOp op (a == b) (Op.bytesLess a b)).map .bool
  | some (.agg a), some (.agg b) =>
    match op, eqAgg P T a b with
    | .eql, some r => some (.bool r)
    | .neq, some r => some (.bool !r)
    | _, _ => none
  | p, q =>
    match p.bind leafV, q.bind leafV with
    | some u, some v => backD (leafRun P (do eqGuard op T x y u v; binOp op T u v))
    | _, _ =>
      if nilEq P st T x y || nilEq P st T y x then
        match op with
        | .eql => some (.bool false)
        | .neq => some (.bool true)
        | _ => none
      else none

def unS (st : St) (op : UnOp) (x : Operand) : Option D :=
  match (valD st x).bind leafV with
  | some u => backD (leafRun P (Op.unary op u))
  | none => none

/-- The bytes of a list of bytes. -/
def bytesOf : List D → Option (List UInt8)
  | [] => some []
  | .int .u8 n :: r => (bytesOf r).map (UInt8.ofNat n.toNat :: ·)
  | _ :: _ => none

def isBytesT (T : TypeId) : Bool := match P.underlying T with | some (.slice e) => (match P.underlying e with | some (.int .u8) => true | _ => false) | _ => false

def bytesS (st : St) (src dst : TypeId) (x : Operand) : Option D :=
  if isBytesT P src && isStrT P dst then
    match listOf st x with
    | some (_, n, xs) => if n = 1 ∨ xs.isEmpty then (bytesOf xs).map .str else none
    | none => none
  else none

def convS (st : St) (src dst : TypeId) (x : Operand) : Option D :=
  match (valD st x).bind leafV with
  | some u => backD (leafRun P (convert src dst u))
  | none => bytesS P st src dst x

def fillD (place : Nat → Option (Nat × Nat)) (cells : List D) : List (Nat × D) → Option (List D)
  | [] => some cells
  | (i, x) :: rest =>
    match place i with
    | none => none
    | some (off, size) =>
      if x.cells.length ≠ size ∨ off + size > cells.length then none
      else fillD place (cells.take off ++ x.cells ++ cells.drop (off + size)) rest

def partsD (st : St) : List (Nat × Operand) → Option (List (Nat × D))
  | [] => some []
  | (i, x) :: r => match valD st x, partsD st r with
    | some d, some ds => some ((i, d) :: ds)
    | _, _ => none

/-- Where a struct's fields lie. -/
def placesOf (T : TypeId) : Option (Nat → Option (Nat × Nat)) :=
  match P.underlying T with
  | some (.struct fs) => if fs.all (fun f => (P.info? f.type).isSome) then some (fun i => (fs[i]?).map fun f => (f.offset, P.cellsOf f.type)) else none
  | some (.array _ e) => if (P.info? e).isSome then some (fun i => some (i * P.cellsOf e, P.cellsOf e)) else none
  | _ => none

def zeroD (T : TypeId) : Option D := ((P.info? T).bind (·.zero)).bind constD

def buildS (st : St) (T : TypeId) (parts : List (Nat × Operand)) : Option D :=
  match placesOf P T, zeroD P T, partsD st parts with
  | some pl, some z, some ds => (fillD pl z.cells ds).map .agg
  | _, _, _ => none

def loadOp (st : St) (T : TypeId) (x : Operand) : Option SV :=
  match asLoc st x with
  | some (s, off) => match boxAt st s with | some cs => loadS P T (.cell s off) (cs.drop off) | none => none
  | none => match ptrOf st x with
    | some (_, cs) => (loadD P T cs).map .d
    | none => match ptrH st x with
      | some (i, off) => match st.H[i]? with | some (.cells cs) => loadS P T (.hcell i off) (cs.drop off) | _ => none
      | none => none

def fieldAddrOp (st : St) (S : TypeId) (x : Operand) (f : Nat) : Option SV :=
  match fieldOff P S f with
  | none => none
  | some fo => match asLoc st x with
    | some (s, off) => some (.loc s (off + fo))
    | none => match ptrOf st x with
      | some (l, cs) => some (lendP l (cs.drop fo))
      | none => match ptrH st x with
        | some (i, off) => some (.d (.ptr i (off + fo)))
        | none => none

def arrayOf (T : TypeId) : Option (Nat × Nat) := match P.underlying T with | some (.array n e) => some (n, P.cellsOf e) | _ => none

def indexAddrOp (st : St) (T : TypeId) (x i : Operand) : Option SV :=
  match intOf? st i with
  | none => none
  | some (_, j) => match arrayOf P T with
    | some (n, sz) => if sz ≠ 0 ∧ 0 ≤ j ∧ j < n then
        match asLoc st x with
        | some (s, off) => some (.loc s (off + j.toNat * sz))
        | none => match ptrH st x with
          | some (i, off) => some (.d (.ptr i (off + j.toNat * sz)))
          | none => none
      else none
    | none => match listOf st x with
      | some (l, n, xs) => if n ≠ 0 ∧ n = elemW P T ∧ 0 ≤ j then (xs[j.toNat]?).map fun x => lendP l x.cells else none
      | none => none

def indexOp (st : St) (T : TypeId) (x i : Operand) : Option D :=
  match valD st x, intOf? st i with
  | some (.str l), some (_, j) => if isStrT P T = true ∧ 0 ≤ j then (l[j.toNat]?).map fun b => .int .u8 b.toNat else none
  | some (.agg cs), some (_, j) => match P.underlying T with
    | some (.array n e) => if P.cellsOf e ≠ 0 ∧ 0 ≤ j ∧ j < n then partD P e cs (j.toNat * P.cellsOf e) else none
    | _ => none
  | _, _ => none

def fieldOp (st : St) (T : TypeId) (x : Operand) (f : Nat) : Option D :=
  match valD st x, P.underlying T with
  | some (.agg cs), some (.struct fs) => match fs[f]? with | some fl => partD P fl.type cs fl.offset | none => none
  | _, _ => none

def bnd (st : St) (dflt : Nat) : Option Operand → Option Nat
  | none => some dflt
  | some x => match intOf? st x with | some (_, j) => if 0 ≤ j then some j.toNat else none | none => none

def isZero (st : St) (x : Option Operand) : Bool := match x with | some x => (match intOf? st x with | some (_, j) => j == 0 | none => false) | none => false

def sliceOp (st : St) (T : TypeId) (x : Operand) (lo hi mx : Option Operand) : Option SV :=
  if mx.isSome then (if lo.isNone && isZero st hi && isZero st mx && elemW P T != 0 && (listOf st x).isSome then some (.d .nilS) else none) else
  match valD st x with
  | some (.str l) => match bnd st 0 lo, bnd st l.length hi with
    | some i, some j => if isStrT P T = true ∧ i ≤ j ∧ j ≤ l.length then some (.d (.str ((l.take j).drop i))) else none
    | _, _ => none
  | _ => match listOf st x with
    | some (l, n, xs) => match bnd st 0 lo, bnd st xs.length hi with
      | some i, some j => if elemW P T ≠ 0 ∧ (n = elemW P T ∨ xs.isEmpty) ∧ i ≤ j ∧ j ≤ xs.length then some (lendL l n ((xs.take j).drop i)) else none
      | _, _ => none
    | none => none

def lenOp (st : St) (T : TypeId) (x : Operand) : Option D :=
  match valD st x with
  | some (.str l) => if isStrT P T = true then some (.int .i64 l.length) else none
  | _ => match listOf st x with
    | some (_, _, xs) => match P.underlying T with | some (.slice _) => some (.int .i64 xs.length) | _ => none
    | none => none

def extractOp (st : St) (x : Operand) (j : Nat) : Option D :=
  match x with
  | .tmp s => match st.tmps[s]? with
    | some (.tup vs) => match vs[j]? with | some (.d d) => some d | _ => none
    | _ => none
  | _ => none

def dsOf (st : St) : List Operand → Option (List D)
  | [] => some []
  | x :: r => match valD st x, dsOf st r with
    | some d, some ds => some (d :: ds)
    | _, _ => none

/-- A function of the program's text, or no function. -/
def fnOk : SV → Bool
  | .d (.fn (.func _) _ _) => true
  | .d (.fn _ _ _) => false
  | _ => true

/-- What an operation that only reads leaves in its slot. -/
def bop (st : St) (o : Oper) : Option SV :=
  match o.op with
  | .move x | .assign x => readOp P st o.type x
  | .pick c x y => match valD st c with | some (.bool b) => (valD st (if b then x else y)).map .d | _ => none
  | .load T x => loadOp P st T x
  | .nilCheck x => match readOp P st o.type x with
    | some s => if someK s != 0 && fnOk s then some s else none
    | none => none
  | .binOp op T x y _ => (binS P st op T x y).map .d
  | .unOp op _ x => (unS P st op x).map .d
  | .convert src dst x => (convS P st src dst x).map .d
  | .makeInterface T x => match P.underlying T with
    | some (.interface _) | none => none
    | some _ => (valD st x).map fun d => .d (.iface T d)
  | .makeFunc fn first caps => match dsOf st first.toList, dsOf st caps.toList with
    | some fs, some cs => some (.d (.fn fn fs cs))
    | _, _ => none
  | .build T parts => (buildS P st T parts.toList).map .d
  | .fieldAddr S x f => fieldAddrOp P st S x f
  | .field T x f => (fieldOp P st T x f).map .d
  | .indexAddr T x i => indexAddrOp P st T x i
  | .index T x i => (indexOp P st T x i).map .d
  | .slice T x lo hi mx => sliceOp P st T x lo hi mx
  | .extract x j => (extractOp st x j).map .d
  | .call c => match c.callee, c.args.toList, c.argTypes.toList with
    | .builtin .len, [x], [T] => (lenOp P st T x).map .d
    | _, _, _ => none
  | _ => none

end
end Go.Sh
