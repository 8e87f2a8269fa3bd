/- The abstract machine: Go's operations over plain values, run in the order of the text | The abstract machine: statements, loops and calls | The abstract machine against Go's memory: what it means that a world holds what the machine says | Each operation that gives a value and leaves memory alone does in Go what the machine says | Addresses, slices, struct and array literals, loads and conversions do in Go what the machine says | New blocks: what the machine says stays true when Go lays a block | Struct, array and slice literals do in Go what the machine says; all operations that give a value | Blocks, stores and growing lists do in Go what the machine says | Stores, copies and appends do in Go what the machine says | Appends do in Go what the machine says; all operations that turn memory | Append, and all operations that turn memory but calls | Each operation does in Go what the machine says, calls too | Regions in the order of the text, and what a frame leaves behind | Statements, loops and the end of a call do in Go what the machine says. Conditions: none. -/
import Derived.Calls
import Derived.Defers
import Derived.Orders
import Derived.Scope
import Derived.LoopN
import Derived.KernelRfl
import Derived.Laws.Sem
import Derived.Below
import Derived.Laws.Cells
import Derived.Laws.IdiomStrings
import Derived.Laws.BytesString
import Derived.Laws.CopyRow
import Derived.Laws.MakeOwn
import Derived.Laws.AppendOwn
/-! The abstract machine: Go's operations over plain values, run in the order of the text. Conditions: none; definitions and small facts. -/
set_option linter.unusedVariables false
set_option linter.unusedSimpArgs false
namespace Go.Proofs.YtnfdepafmmibaaaDoor
open Go

/-- Immutable data: a scalar, or a slice of cells. -/
inductive DV where
  | v (x : Value)
  | list (n : Nat) (cells : List DV)

/-- What is known of a slice's spare room. -/
inductive Tag where
  | none
  | full
  | own (d k : Nat)

/-- Abstract values. -/
inductive AV where
  | undef
  | v (x : Value)
  | list (tag : Tag) (n : Nat) (cells : List DV)
  | ptr (d k off : Nat)
  | lptr (cells : List DV) (off : Nat)
  | msl (d k off n cap : Nat)
  | fn (f : FuncId) (caps : List AV)
  | agg (cs : List AV)
  | tuple (vs : List AV)

instance : Inhabited AV := ⟨.undef⟩

/-- A block that may be written. -/
structure Blk where
  ty : TypeId
  tk : Nat
  cells : List AV

/-- The blocks and the lists that grow, of one call. -/
structure Frm where
  blks : List Blk
  toks : List Nat

abbrev St := List Frm

def getFr : St → Nat → Option Frm
  | [], _ => none
  | f :: s, d => if d = s.length then some f else getFr s d
def setFr : St → Nat → Frm → St
  | [], _, _ => []
  | f :: s, d, g => if d = s.length then g :: s else f :: setFr s d g
def getBlk (s : St) (d k : Nat) : Option Blk := (getFr s d).bind fun f => f.blks[k]?
def setBlk (s : St) (d k : Nat) (b : Blk) : St :=
  match getFr s d with
  | some f => setFr s d { f with blks := f.blks.set k b }
  | none => s
def getTok (s : St) (d k : Nat) : Option Nat := (getFr s d).bind fun f => f.toks[k]?
def setTok (s : St) (d k n : Nat) : St :=
  match getFr s d with
  | some f => setFr s d { f with toks := f.toks.set k n }
  | none => s

def scalar : Value → Bool
  | .bool _ | .int _ _ | .float _ _ | .complex _ _ _ | .string _ | .nilFunc | .nilIface | .pointer none | .map none | .chan none => true
  | _ => false

def ofCell : Value → AV
  | .slice none n c => if n = 0 ∧ c = 0 then .list .full 0 [] else .undef
  | x => if scalar x then .v x else .undef
def ofVal : Value → AV
  | .agg cs => if (cs.toList.all Value.oneCell') = true then .agg (cs.toList.map ofCell) else .undef
  | .tuple vs => .tuple (vs.toList.map ofCell)
  | x => ofCell x

def DV.av : DV → AV
  | .v x => .v x
  | .list n cs => .list .none n cs
def AV.dv : AV → Option DV
  | .v x => some (.v x)
  | .list _ n cs => some (.list n cs)
  | _ => none
def dvs : List AV → Option (List DV)
  | [] => some []
  | x :: r => match x.dv with
    | some y => (dvs r).map (y :: ·)
    | none => none
def vals : List AV → Option (List Value)
  | [] => some []
  | .v x :: r => (vals r).map (x :: ·)
  | _ :: _ => none
def AV.val : AV → Option Value
  | .v x => some x
  | .agg cs => (vals cs).map fun l => .agg l.toArray
  | _ => none
def AV.parts : AV → Option (List AV)
  | .agg cs => some cs
  | .undef | .tuple _ => none
  | x => some [x]

/-- A reckoning that does not look at memory. -/
def pureRun {α : Type} (P : Program) : Sem α → Option α
  | .pure a => some a
  | .program k => pureRun P (k P)
  | _ => none

structure Env where
  tmps : List AV
  ds : List (FuncId × List AV)
def Env.put (e : Env) (d : Option Tmp) (x : AV) : Env :=
  match d with
  | some t => { e with tmps := e.tmps.set t x }
  | none => e

/-- What the machine is told of a program. -/
structure Cx where
  P : Program
  gl : Nat → AV
  live : FuncId → Nat → Option (List Nat)
  oracle : FuncId → Option (List AV → St → Option (AV × St))
  glOk : ∀ g, gl g = .undef ∨ ∃ cs o, gl g = .lptr cs o
  gives : FuncId → Bool := fun _ => false

def eva (X : Cx) (e : Env) : Operand → AV
  | .tmp t => e.tmps.getD t .undef
  | .const x => ofVal x
  | .global g => X.gl g
  | .func f => .fn f []


/-! ### Operations that look at no memory -/
def aPick (c a b : AV) : Option AV :=
  match c with
  | .v (.bool t) => some (if t = true then a else b)
  | _ => none
def nilIfaces : Value → Value → Bool
  | .nilIface, .nilIface => true
  | _, _ => false
def binSem (op : BinOp) (t : TypeId) (a b : Value) : Sem Value := do
  eqGuard op t (.tmp 0) (.tmp 0) a b
  binOp op t a b
def aBinV (P : Program) (op : BinOp) (t : TypeId) (a b : Value) : Option AV :=
  if nilIfaces a b = true then none else (pureRun P (binSem op t a b)).map ofVal
def aBin (P : Program) (op : BinOp) (t : TypeId) (x y : AV) : Option AV :=
  match x.val, y.val with
  | some a, some b => aBinV P op t a b
  | _, _ => none
/-- The literal nil of a slice type. -/
def isNilC : Operand → Bool
  | .const (.slice none 0 0) => true
  | _ => false
/-- A slice that is known not to be nil, against nil. -/
def aNilCmp (P : Program) (op : BinOp) (t : TypeId) (a : AV) : Option AV :=
  match P.underlying t, op, a with
  | some (.slice _), .eql, .list _ (_ + 1) _ => some (.v (.bool false))
  | some (.slice _), .neq, .list _ (_ + 1) _ => some (.v (.bool true))
  | some (.slice _), .eql, .msl _ _ _ _ _ => some (.v (.bool false))
  | some (.slice _), .neq, .msl _ _ _ _ _ => some (.v (.bool true))
  | _, _, _ => none
def aBinO (P : Program) (op : BinOp) (t : TypeId) (a b : AV) (y : Operand) : Option AV :=
  match isNilC y with
  | true => aNilCmp P op t a
  | false => aBin P op t a b
def aUn (P : Program) (op : UnOp) (x : AV) : Option AV :=
  match x.val with
  | some a => (pureRun P (Op.unary op a)).map ofVal
  | none => none
def isBytes (P : Program) (t : TypeId) : Bool :=
  match P.underlying t with
  | some (.slice e) => (match P.underlying e with | some (.int .u8) => true | _ => false)
  | _ => false
def isStr (P : Program) (t : TypeId) : Bool :=
  match P.underlying t with
  | some .string => true
  | _ => false
/-- The bytes of cells. -/
def bytesOf : List DV → Option (List UInt8)
  | [] => some []
  | .v (.int .u8 n) :: r => (bytesOf r).map (UInt8.ofNat n.toNat :: ·)
  | _ :: _ => none
def bcells (l : List UInt8) : List DV := l.map fun b => .v (.int .u8 b.toNat)
def aConvV (P : Program) (src dst : TypeId) (a : Value) : Option AV := (pureRun P (convert src dst a)).map ofVal
def aConv (P : Program) (src dst : TypeId) (x : AV) : Option AV :=
  match x with
  | .list _ n cs => if isBytes P src && isStr P dst && n == cs.length then (bytesOf cs).map fun l => .v (.string ⟨l.toArray⟩) else none
  | .v (.string b) => if isBytes P dst && isStr P src then some (.list .none b.size (bcells b.data.toList)) else aConvV P src dst (.string b)
  | .v a => aConvV P src dst a
  | _ => none
def aLen (P : Program) (t : TypeId) (x : AV) : Option AV :=
  match P.underlying t, x with
  | some (.slice _), .list _ n _ => some (.v (.int .i64 n))
  | some (.slice _), .msl _ _ _ n _ => some (.v (.int .i64 n))
  | some .string, .v (.string b) => some (.v (.int .i64 b.size))
  | some (.array n _), _ => some (.v (.int .i64 n))
  | _, _ => none
def aggD (d : TypeDesc) : Bool :=
  match d with
  | .struct _ | .array _ _ => true
  | _ => false
/-- Is it a struct or an array, and its number of cells. -/
def tyOf (P : Program) (t : TypeId) : Option (Bool × Nat) :=
  match P.underlying t, P.info? t with
  | some d, some i => some (aggD d, i.size)
  | _, _ => none
def aPart (P : Program) (t : TypeId) (cs : List AV) (off : Nat) : Option AV :=
  match tyOf P t with
  | some p => if p.1 = true then some (.agg ((cs.drop off).take p.2)) else cs[off]?
  | none => none
def aField (P : Program) (t : TypeId) (x : AV) (f : Nat) : Option AV :=
  match P.underlying t, x with
  | some (.struct fs), .agg cs => (match fs[f]? with | some fd => aPart P fd.type cs fd.offset | none => none)
  | _, _ => none
def aIndex (P : Program) (t : TypeId) (x ix : AV) : Option AV :=
  match P.underlying t, x, ix with
  | some (.array len e), .agg cs, .v (.int _ i) => if 0 ≤ i ∧ i < (len : Int) ∧ 0 < P.cellsOf e then aPart P e cs (i.toNat * P.cellsOf e) else none
  | some .string, .v (.string b), .v (.int _ i) => if 0 ≤ i then (match b[i.toNat]? with | some c => some (.v (.int .u8 c.toNat)) | none => none) else none
  | _, _, _ => none
def aExtract (x : AV) (i : Nat) : Option AV :=
  match x with
  | .tuple vs => vs[i]?
  | _ => none
def setAt (cs : List AV) (off : Nat) : List AV → List AV
  | [] => cs
  | x :: r => setAt (cs.set off x) (off + 1) r
def aFill (place : Nat → Option (Nat × Nat)) (cs : List AV) : List (Nat × AV) → Option (List AV)
  | [] => some cs
  | (i, x) :: r => match place i with
    | none => none
    | some (off, size) => (match x.parts with
      | some ps => if ps.length = size ∧ off + size ≤ cs.length then aFill place (setAt cs off ps) r else none
      | none => none)
def zeroOf (P : Program) (t : TypeId) : Option Value := (P.info? t).bind (·.zero)
/-- The cells of a type's zero value. -/
def zCells (P : Program) (t : TypeId) : Option (List AV) :=
  match zeroOf P t with
  | some z => if (z.cells.toList.all Value.oneCell') = true then some (z.cells.toList.map ofCell) else none
  | none => none
def aBuild (P : Program) (t : TypeId) (ps : List (Nat × AV)) : Option AV :=
  match zCells P t, P.underlying t with
  | some z, some (.struct fs) => if (fs.toList.all fun f => (P.info? f.type).isSome) = true then (aFill (fun i => (fs[i]?).map fun f => (f.offset, P.cellsOf f.type)) z ps).map .agg else none
  | some z, some (.array _ e) => if P.cellsOf e = 0 then none else (aFill (fun i => some (i * P.cellsOf e, P.cellsOf e)) z ps).map .agg
  | _, _ => none
def repl (z : List AV) : Nat → List AV
  | 0 => []
  | n + 1 => z ++ repl z n
def aBuildSlice (P : Program) (t : TypeId) (len : Nat) (ps : List (Nat × AV)) : Option AV :=
  match P.underlying t with
  | some (.slice e) => (match zCells P e with
    | some z => if len * P.cellsOf e ≤ 2 ^ 24 ∧ 0 < P.cellsOf e ∧ z.length = P.cellsOf e then
        ((aFill (fun i => some (i * P.cellsOf e, P.cellsOf e)) (repl z len) ps).bind dvs).map fun cs => .list .full len cs else none
    | none => none)
  | _ => none
def nval (x : Option AV) (dflt : Nat) : Option Nat :=
  match x with
  | none => some dflt
  | some (.v (.int _ i)) => if 0 ≤ i then some i.toNat else none
  | _ => none
/-- A slice of a row of n elements of sz cells: (l, h, m). -/
def bounds (n cap : Nat) (lo hi mx : Option AV) : Option (Nat × Nat × Nat) :=
  match nval lo 0, nval hi n, nval mx cap with
  | some l, some h, some m => if l ≤ h ∧ h ≤ m ∧ m ≤ cap ∧ (mx.isSome = true → hi.isSome = true) then some (l, h, m) else none
  | _, _, _ => none
def aSlice (P : Program) (t : TypeId) (x : AV) (lo hi mx : Option AV) : Option AV :=
  match P.underlying t, x with
  | some .string, .v (.string b) => if mx.isSome = true then none else (bounds b.size b.size lo hi none).map fun p => .v (.string (b.extract p.1 p.2.1))
  | some (.slice e), .list tag n cs => if P.cellsOf e = 0 then none else (bounds n n lo hi mx).bind fun p => if cs.length < p.2.1 * P.cellsOf e then none else some <|
      .list (if mx.isSome = true ∧ p.2.1 = p.2.2 then .full else match tag with | .full => (if p.2.1 = n then .full else .none) | _ => .none) (p.2.1 - p.1)
        ((cs.drop (p.1 * P.cellsOf e)).take ((p.2.1 - p.1) * P.cellsOf e))
  | some (.slice e), .msl d k off n cap => if P.cellsOf e = 0 then none else (bounds n cap lo hi mx).map fun p =>
      .msl d k (if p.2.2 = p.1 then off else off + p.1 * P.cellsOf e) (p.2.1 - p.1) (p.2.2 - p.1)
  | some (.array n e), .ptr d k off => if P.cellsOf e = 0 then none else (bounds n n lo hi mx).map fun p =>
      .msl d k (if p.2.2 = p.1 then off else off + p.1 * P.cellsOf e) (p.2.1 - p.1) (p.2.2 - p.1)
  | _, _ => none
def aIndexAddr (P : Program) (t : TypeId) (x ix : AV) : Option AV :=
  match P.underlying t, x, ix with
  | some (.slice e), .list _ n cs, .v (.int _ i) => if 0 ≤ i ∧ i < (n : Int) ∧ 0 < P.cellsOf e ∧ (i.toNat + 1) * P.cellsOf e ≤ cs.length then some (.lptr cs (i.toNat * P.cellsOf e)) else none
  | some (.slice e), .msl d k off n _, .v (.int _ i) => if 0 ≤ i ∧ i < (n : Int) ∧ 0 < P.cellsOf e then some (.ptr d k (off + i.toNat * P.cellsOf e)) else none
  | some (.array len e), .ptr d k off, .v (.int _ i) => if 0 ≤ i ∧ i < (len : Int) ∧ 0 < P.cellsOf e then some (.ptr d k (off + i.toNat * P.cellsOf e)) else none
  | some (.array len e), .lptr cs off, .v (.int _ i) => if 0 ≤ i ∧ i < (len : Int) ∧ 0 < P.cellsOf e then some (.lptr cs (off + i.toNat * P.cellsOf e)) else none
  | _, _, _ => none
def aFieldAddr (P : Program) (t : TypeId) (x : AV) (f : Nat) : Option AV :=
  match P.underlying t, x with
  | some (.struct fs), .ptr d k off => (match fs[f]? with | some fd => if P.cellsOf fd.type = 0 then none else some (.ptr d k (off + fd.offset)) | none => none)
  | some (.struct fs), .lptr cs off => (match fs[f]? with | some fd => if P.cellsOf fd.type = 0 then none else some (.lptr cs (off + fd.offset)) | none => none)
  | _, _ => none
def aNil (x : AV) : Option AV :=
  match x with
  | .ptr d k off => some (.ptr d k off)
  | .lptr cs off => some (.lptr cs off)
  | .fn f caps => some (.fn f caps)
  | _ => none
def aArr (P : Program) (t : TypeId) (x : AV) : Option AV :=
  match P.underlying t, x with
  | some (.array n _), .msl d k off m _ => if n ≤ m then some (.ptr d k off) else none
  | some (.array n _), .list _ m (c :: cs) => if n ≤ m then some (.lptr (c :: cs) 0) else none
  | _, _ => none
def aFunc (fn : Fn) (first caps : List AV) : Option AV :=
  match fn, first with
  | .func f, [] => some (.fn f caps)
  | _, _ => none
def minmax (P : Program) (b : Builtin) (xs : List AV) : Option AV :=
  match vals xs with
  | some vs => (match b with
    | .min => (pureRun P (Builtin.min_ #[] 0 vs.toArray)).map ofVal
    | .max => (pureRun P (Builtin.max_ #[] 0 vs.toArray)).map ofVal
    | _ => none)
  | none => none

/-! ### Memory -/
/-- New empty slices that lie in a block get a right to grow. -/
def tokCells (d : Nat) : List AV → List Nat → List AV × List Nat
  | [], ts => ([], ts)
  | .list .full 0 [] :: r, ts => let p := tokCells d r (ts ++ [0]); (.list (.own d ts.length) 0 [] :: p.1, p.2)
  | x :: r, ts => let p := tokCells d r ts; (x :: p.1, p.2)
def capOk (p : Nat → Nat → Bool) : AV → Bool
  | .ptr d k _ => p d k
  | .v _ => true
  | _ => false
def refOk (d k : Nat) : AV → Bool
  | .ptr d' k' _ => decide (d' < d ∨ d' = d ∧ k' ≤ k)
  | .msl d' k' _ _ _ => decide (d' < d ∨ d' = d ∧ k' ≤ k)
  | .fn _ caps => caps.all (capOk fun d' k' => decide (d' < d ∨ d' = d ∧ k' ≤ k))
  | .v _ | .list _ _ _ | .undef => true
  | _ => false
/-- What may be kept in block (d, k), whose rights are those before tk. -/
def fit (d k tk : Nat) (x : AV) : AV :=
  match x with
  | .list (.own d' k') n cs => if d' < d ∨ d' = d ∧ k' < tk then x else .list .none n cs
  | x => if refOk d k x = true then x else .undef
def newBlk (t : TypeId) (cs : List AV) (s : St) : Option (AV × St) :=
  match s with
  | [] => none
  | f :: r =>
    let p := tokCells r.length cs f.toks
    some (.ptr r.length f.blks.length 0, { blks := f.blks ++ [{ ty := t, tk := p.2.length, cells := p.1.map (fit r.length f.blks.length p.2.length) }], toks := p.2 } :: r)
def aAlloc (P : Program) (t : TypeId) (s : St) : Option (AV × St) :=
  match zCells P t with
  | some z => newBlk t z s
  | none => none
def aBox (t : TypeId) (x : AV) (s : St) : Option (AV × St) :=
  match x.parts with
  | some cs => newBlk t cs s
  | none => none
def aLoad (P : Program) (t : TypeId) (x : AV) (s : St) : Option AV :=
  match x, tyOf P t with
  | .lptr cs off, some p =>
    if p.1 = true then (if off + p.2 ≤ cs.length then some (.agg (((cs.drop off).take p.2).map DV.av)) else none) else (cs[off]?).map DV.av
  | .ptr d k off, some p => (match getBlk s d k with
    | some b => if p.1 = true then (if off + p.2 ≤ b.cells.length then some (.agg ((b.cells.drop off).take p.2)) else none) else b.cells[off]?
    | none => none)
  | _, _ => none
def aStore (P : Program) (t : TypeId) (x y : AV) (s : St) : Option (AV × St) :=
  match x, y.parts, P.info? t with
  | .ptr d k off, some ps, some i => (match getBlk s d k with
    | some b => if ps.length = i.size ∧ off + i.size ≤ b.cells.length then some (.undef, setBlk s d k { b with cells := setAt b.cells off (ps.map (fit d k b.tk)) }) else none
    | none => none)
  | _, _, _ => none
/-- The cells of what is appended or copied, and their number of elements. -/
def srcCells (P : Program) (e : TypeId) (y : AV) (s : St) : Option (Nat × List DV) :=
  match y with
  | .list _ n cs => if cs.length = n * P.cellsOf e then some (n, cs) else none
  | .v (.string b) => if P.cellsOf e = 1 then some (b.size, bcells b.data.toList) else none
  | .msl d k off n _ => (match getBlk s d k with
    | some b => if off + n * P.cellsOf e ≤ b.cells.length then (dvs ((b.cells.drop off).take (n * P.cellsOf e))).map fun cs => (n, cs) else none
    | none => none)
  | _ => none
def growTok (s : St) (tag : Tag) (n m : Nat) : Option (Tag × St) :=
  match tag with
  | .none => none
  | .full => (match s with
    | [] => none
    | f :: r => some (.own r.length f.toks.length, { f with toks := f.toks ++ [n + m] } :: r))
  | .own d k => (match getTok s d k with
    | some c => if c = n then some (.own d k, setTok s d k (n + m)) else none
    | none => none)
def aAppend (P : Program) (t : TypeId) (x y : AV) (s : St) : Option (AV × St) :=
  match P.underlying t, x with
  | some (.slice e), .list tag n cs => (match srcCells P e y s with
    | some (m, ys) =>
      if cs.length = n * P.cellsOf e ∧ 0 < P.cellsOf e ∧ (n + m) * P.bytesOf e ≤ 140737488355328 ∧ n + m ≤ 9223372036854775807 ∧ ((zCells P e).any fun z => z.length == P.cellsOf e) = true ∧ 0 < P.bytesOf e then
        (if m = 0 then some (.list tag n cs, s) else (growTok s tag n m).map fun p => (.list p.1 (n + m) (cs ++ ys), p.2))
      else none
    | none => none)
  | _, _ => none
/-- A cell of a new row: an empty slice gets no right of its own. -/
def plainCell (x : AV) : AV :=
  match x with
  | .v y => .v y
  | .list .full n cs => .list .full n cs
  | _ => .undef
def aMake (P : Program) (t : TypeId) (x y : AV) (s : St) : Option (AV × St) :=
  match P.underlying t, x, y, s with
  | some (.slice e), .v (.int _ n), .v (.int _ c), f :: r => (match zCells P e with
    | some z => if 0 ≤ n ∧ n ≤ c ∧ c * P.bytesOf e ≤ 140737488355328 ∧ c ≤ 9223372036854775807 ∧ 0 < P.cellsOf e ∧ z.length = P.cellsOf e then
        some (.msl r.length f.blks.length 0 n.toNat c.toNat, { f with blks := f.blks ++ [{ ty := e, tk := f.toks.length, cells := repl (z.map plainCell) c.toNat }] } :: r) else none
    | none => none)
  | _, _, _, _ => none
def aCopy (P : Program) (t : TypeId) (x y : AV) (s : St) : Option (AV × St) :=
  match P.underlying t, x with
  | some (.slice e), .msl d k off n _ => (match srcCells P e y s, getBlk s d k with
    | some (m, ys), some b => if off + min m n * P.cellsOf e ≤ b.cells.length ∧ 0 < P.cellsOf e then
        some (.v (.int .i64 (min m n : Nat)), setBlk s d k { b with cells := setAt b.cells off ((ys.take (min m n * P.cellsOf e)).map DV.av) }) else none
    | _, _ => none)
  | _, _ => none
def aNilTok (x : AV) (s : St) : AV × St :=
  match x, s with
  | .list .full 0 [], f :: r => (.list (.own r.length f.toks.length) 0 [], { f with toks := f.toks ++ [0] } :: r)
  | x, s => (x, s)
end Go.Proofs.YtnfdepafmmibaaaDoor

/-! The abstract machine: statements, loops and calls. Conditions: none; definitions. -/
set_option linter.unusedVariables false
set_option linter.unusedSimpArgs false
namespace Go.Proofs.YtnfdepafmmibaaaDoor
open Go

abbrev Res := Option (AV × St)
abbrev CallF := FuncId → List AV → St → Option (AV × St)

def bind2 {α : Type} (x : Option (AV × St)) (k : AV → St → Option α) : Option α :=
  match x with
  | some p => k p.1 p.2
  | none => none

def rloc : AV → Option (Nat × Nat)
  | .ptr d k _ => some (d, k)
  | .msl d k _ _ _ => some (d, k)
  | _ => none
def chk (l : Option (Nat × Nat)) (s s' : St) : Prop :=
  match l with
  | none => True
  | some p => getBlk s p.1 p.2 = getBlk s' p.1 p.2
open Classical in
noncomputable def needs {α : Type} : List (Option (Nat × Nat) × St × St) → Option α → Option α
  | [], x => x
  | p :: r, x => if chk p.1 p.2.1 p.2.2 then needs r x else none

def aConvS (P : Program) (src dst : TypeId) (x : AV) (s : St) : Option AV :=
  match x with
  | .msl d k off n _ => (match getBlk s d k with
    | some b => if isBytes P src && isStr P dst && decide (off + n ≤ b.cells.length) then (dvs ((b.cells.drop off).take n)).bind fun cs => (bytesOf cs).map fun l => .v (.string ⟨l.toArray⟩) else none
    | none => none)
  | x => aConv P src dst x

def evs (X : Cx) (e : Env) (xs : Array Operand) : List AV := xs.toList.map (eva X e)

inductive Kind where
  | pure | read | alloc | write | other
  deriving DecidableEq

def kindOf : Op → Kind
  | .move _ | .assign _ | .pick _ _ _ | .build _ _ | .buildSlice _ _ _ | .nilCheck _ | .binOp _ _ _ _ _ | .unOp _ _ _ | .sliceToArrayPointer _ _ | .makeFunc _ _ _
  | .slice _ _ _ _ _ | .fieldAddr _ _ _ | .field _ _ _ | .indexAddr _ _ _ | .index _ _ _ | .extract _ _ => .pure
  | .load _ _ | .convert _ _ _ => .read
  | .alloc _ => .alloc
  | .box _ _ | .makeSlice _ _ _ => .write
  | .store _ _ _ => .write
  | .call { callee := .builtin .len, .. } | .call { callee := .builtin .min, .. } | .call { callee := .builtin .max, .. } => .pure
  | .call _ => .write
  | _ => .other

/-- Operations that give a value and leave memory alone. -/
def valOp (X : Cx) (e : Env) (s : St) : Op → Option (Option AV)
  | .move x => some (some (eva X e x))
  | .pick c a b => some (aPick (eva X e c) (eva X e a) (eva X e b))
  | .build t ps => some (aBuild X.P t (ps.toList.map fun p => (p.1, eva X e p.2)))
  | .buildSlice t n ps => some (aBuildSlice X.P t n (ps.toList.map fun p => (p.1, eva X e p.2)))
  | .nilCheck x => some (aNil (eva X e x))
  | .binOp op t x y _ => some (aBinO X.P op t (eva X e x) (eva X e y) y)
  | .unOp op _ x => some (aUn X.P op (eva X e x))
  | .sliceToArrayPointer t x => some (aArr X.P t (eva X e x))
  | .makeFunc fn first caps => some (aFunc fn (evs X e first) (evs X e caps))
  | .slice t x lo hi mx => some (aSlice X.P t (eva X e x) (lo.map (eva X e)) (hi.map (eva X e)) (mx.map (eva X e)))
  | .fieldAddr t x f => some (aFieldAddr X.P t (eva X e x) f)
  | .field t x f => some (aField X.P t (eva X e x) f)
  | .indexAddr t x i => some (aIndexAddr X.P t (eva X e x) (eva X e i))
  | .index t x i => some (aIndex X.P t (eva X e x) (eva X e i))
  | .extract x i => some (aExtract (eva X e x) i)
  | .load t x => some (aLoad X.P t (eva X e x) s)
  | .convert src dst x => some (aConvS X.P src dst (eva X e x) s)
  | .call { callee := .builtin .len, args, argTypes } => some (match argTypes[0]?, args[0]? with | some t, some x => aLen X.P t (eva X e x) | _, _ => none)
  | .call { callee := .builtin .min, args, .. } => some (minmax X.P .min (evs X e args))
  | .call { callee := .builtin .max, args, .. } => some (minmax X.P .max (evs X e args))
  | _ => none

/-- The callee and all its arguments. -/
def callee (X : Cx) (e : Env) (c : Call) : Option (FuncId × List AV) :=
  match c.callee with
  | .value f => (match eva X e f with
    | .fn g caps => some (g, evs X e c.args ++ caps)
    | _ => none)
  | _ => none

def callRes (cf : CallF) (p : Option (FuncId × List AV)) (s : St) : Res :=
  match p with
  | some p => cf p.1 p.2 s
  | none => none
/-- What may be appended: a slice or a string. -/
def srcType (P : Program) (u : TypeId) : Bool :=
  match P.underlying u with
  | some (.slice _) | some .string => true
  | _ => false
/-- Operations that turn memory. -/
def memOp (X : Cx) (cf : CallF) (draw : Bool) (e : Env) (s : St) : Op → Res
  | .assign x => if draw = true then some (eva X e x, s) else (match x with
    | .const _ => some (aNilTok (eva X e x) s)
    | _ => some (eva X e x, s))
  | .alloc t => aAlloc X.P t s
  | .box t x => aBox t (eva X e x) s
  | .makeSlice t n c => aMake X.P t (eva X e n) (eva X e c) s
  | .store t x y => aStore X.P t (eva X e x) (eva X e y) s
  | .call { callee := .builtin .append, args, argTypes } => (match argTypes[0]?, args[0]?, args[1]?, argTypes[1]? with
    | some t, some x, some y, some u => if srcType X.P u = true then aAppend X.P t (eva X e x) (eva X e y) s else none
    | _, _, _, _ => none)
  | .call { callee := .builtin .copy, args, argTypes } => (match argTypes[0]?, args[0]?, args[1]? with
    | some t, some x, some y => aCopy X.P t (eva X e x) (eva X e y) s
    | _, _, _ => none)
  | .call c => callRes cf (callee X e c) s
  | _ => none

def gP (g : Option (AV × Bool)) (x : Option AV) : Option AV :=
  match g with
  | none => x
  | some p => (match p.1 with
    | .v (.bool b) => if b = p.2 then x else some (.tuple [])
    | .tuple [] => some (.tuple [])
    | _ => none)
def gS (g : Option (AV × Bool)) (s : St) (x : Res) : Res :=
  match g with
  | none => x
  | some p => (match p.1 with
    | .v (.bool b) => if b = p.2 then x else some (.tuple [], s)
    | .tuple [] => some (.tuple [], s)
    | _ => none)
/-- A guard that does not let its operation run; `.tuple []` stands in the place of what did not run itself. -/
def offG (c : AV) (want : Bool) : Bool :=
  match c with
  | .v (.bool b) => b != want
  | .tuple [] => true
  | _ => false
def gate (ops : List Oper) (e : Env) (o : Oper) : Option (AV × Bool) :=
  match o.guard with
  | none => none
  | some p => some ((match (ops[p.1]?).bind (·.dst) with | some t => e.tmps.getD t .undef | none => .undef), p.2)

def opK {α : Type} (X : Cx) (cf : CallF) (draw : Bool) (ops : List Oper) (o : Oper) (e : Env) (s : St) (k : AV → St → Option α) : Option α :=
  match valOp X e s o.op with
  | some r => (gP (gate ops e o) r).bind fun x => k x s
  | none => bind2 (gS (gate ops e o) s (memOp X cf draw e s o.op)) k

def aOps {α : Type} (X : Cx) (cf : CallF) (ops : List Oper) : List Oper → Env → St → (Env → St → Option α) → Option α
  | [], e, s, k => k e s
  | o :: r, e, s, k =>
    match o.op, o.guard with
    | .defer c, none => (callee X e c).bind fun p => aOps X cf ops r { (e.put o.dst .undef) with ds := p :: e.ds } s k
    | _, _ => opK X cf false ops o e s fun x s' => aOps X cf ops r (e.put o.dst x) s' k

/-! ### A region whose order Go leaves open -/
def opEdges (o : Oper) : List Nat := (o.after.toList.filter (Region.binds .any)).map (·.on)
/-- For each operation those that come before it, as bits. -/
def masks : List Oper → List Nat → List Nat
  | [], acc => acc
  | o :: r, acc => masks r (acc ++ [(opEdges o).foldl (fun m j => m ||| 2 ^ j ||| acc.getD j 0) 0])
def ordered (ms : List Nat) (i j : Nat) : Bool := if i < j then (ms.getD j 0).testBit i else (ms.getD i 0).testBit j
def looks (ops : List Oper) (o : Oper) : List Tmp :=
  (o.op.operands.toList.filterMap fun | .tmp t => some t | _ => none) ++
  (match o.guard with
   | some p => ((ops[p.1]?).bind (·.dst)).toList
   | none => [])
def isAlloc (o : Oper) : Bool := kindOf o.op == .alloc
def heavy (o : Oper) : Bool := kindOf o.op == .write
def pairOk (ops : List Oper) (ms : List Nat) (i j : Nat) (a b : Oper) : Bool :=
  -- i < j
  (match a.dst with
   | some t => b.dst != some t && (!(looks ops b).contains t || ordered ms i j)
   | none => true) &&
  (match b.dst with
   | some t => !(looks ops a).contains t || (ordered ms i j && !isAlloc b)
   | none => true) &&
  (!(heavy a && heavy b) || ordered ms i j)
def drawOk (ops : List Oper) : Bool :=
  let ms := masks ops []
  ops.zipIdx.all fun p => (kindOf p.1.op != .other) && (opEdges p.1).all (fun j => decide (j < p.2)) &&
    (match p.1.dst with | some t => !(looks ops p.1).contains t | none => true) && (!isAlloc p.1 || p.1.guard.isNone) &&
    (match p.1.guard with | some g => decide (g.1 < p.2) | none => true) &&
    ops.zipIdx.all fun q => !decide (p.2 < q.2) || pairOk ops ms p.2 q.2 p.1 q.1
def orderD (ops : List Oper) : List Nat :=
  ((List.range ops.length).filter fun i => (ops[i]?).any isAlloc) ++ ((List.range ops.length).filter fun i => !(ops[i]?).any isAlloc)
/-- Whether the new block i may come after the writing operation j. -/
def late (ms : List Nat) (i j : Nat) : Bool := !(decide (i < j) && ordered ms i j)
/-- Whether the reading operation i, or the new block (a), is left apart from the writing operation j. -/
def apart (ms : List Nat) (a : Bool) (i j : Nat) : Bool := if a = true then late ms i j else !ordered ms i j
def opLoc (X : Cx) (e : Env) : Op → Option (Nat × Nat)
  | .load _ x => rloc (eva X e x)
  | .convert _ _ x => rloc (eva X e x)
  | _ => none
noncomputable def aOpsD {α : Type} (X : Cx) (cf : CallF) (ops : List Oper) (ms : List Nat) :
    List Nat → List (Nat × Bool × Option (Nat × Nat)) → List (Nat × St × St) → Env → St → (Env → St → Option α) → Option α
  | [], _, _, e, s, k => k e s
  | i :: r, rs, ws, e, s, k =>
    match ops[i]? with
    | none => none
    | some o =>
      match kindOf o.op with
      | .read => needs ((ws.filter fun w => apart ms false i w.1).map fun w => (opLoc X e o.op, w.2.1, w.2.2))
          (opK X cf true ops o e s fun x s' => aOpsD X cf ops ms r (rs ++ [(i, false, opLoc X e o.op)]) ws (e.put o.dst x) s' k)
      | .write => opK X cf true ops o e s fun x s' =>
          needs ((rs.filter fun p => apart ms p.2.1 p.1 i).map fun p => (p.2.2, s, s')) (aOpsD X cf ops ms r rs (ws ++ [(i, s, s')]) (e.put o.dst x) s' k)
      | .alloc => opK X cf true ops o e s fun x s' => needs ((ws.filter fun w => apart ms true i w.1).map fun w => (rloc x, w.2.1, w.2.2)) (aOpsD X cf ops ms r (rs ++ [(i, true, rloc x)]) ws (e.put o.dst x) s' k)
      | _ => opK X cf true ops o e s fun x s' => aOpsD X cf ops ms r rs ws (e.put o.dst x) s' k

/-! ### Statements -/
inductive AX where
  | normal
  | exit (id : Nat)
  | ret

/-- A cell without rights and references. -/
def bareCell : AV → AV
  | .v y => .v y
  | .list _ n cs => .list .none n cs
  | _ => .undef
/-- What stays known when the blocks of the frame from nb on, and the rights from nt on, are given up. -/
def keep (d nb nt : Nat) (x : AV) : AV :=
  match x with
  | .list (.own d' k') n cs => if d' < d ∨ d' = d ∧ k' < nt then x else .list .none n cs
  | .ptr d' k' off => if d' < d ∨ d' = d ∧ k' < nb then x else .undef
  | .msl d' k' off n c => if d' < d ∨ d' = d ∧ k' < nb then x else .undef
  | .fn f caps => if caps.all (capOk fun d' k' => decide (d' < d ∨ d' = d ∧ k' < nb)) = true then x else .undef
  | .agg cs => .agg (cs.map bareCell)
  | .tuple _ => .undef
  | x => x
def topB : St → Nat
  | [] => 0
  | f :: _ => f.blks.length
def topT : St → Nat
  | [] => 0
  | f :: _ => f.toks.length
/-- A loop whose live slots bear the mark 1000000 keeps the rights that its rounds make. -/
def topN (lv : Option (List Nat)) (s : St) : Nat :=
  match lv with
  | some l => if l.contains 1000000 = true then topT s + 1000000 else topT s
  | none => topT s
def depth (s : St) : Nat := s.length - 1
/-- The frame's newer blocks are given up. -/
def trim (nb nt : Nat) : St → St
  | [] => []
  | f :: r => { blks := f.blks.take nb, toks := if ((f.blks.take nb).all fun b => decide (b.tk ≤ nt)) = true then f.toks.take nt else f.toks } :: r
def rightsLeft (nb nt : Nat) : St → Nat
  | [] => nt
  | f :: _ => if ((f.blks.take nb).all fun b => decide (b.tk ≤ nt)) = true then nt else f.toks.length
def killE (live : Option (List Nat)) (g : AV → AV) (e : Env) : Env :=
  { e with tmps := e.tmps.zipIdx.map fun p => match live with
      | none => g p.1
      | some l => if l.contains p.2 = true then g p.1 else .undef }
/-- The region that a loop's body begins with. -/
def firstRegion : Code → Nat
  | .region id _ _ => id
  | .seq a _ => firstRegion a
  | .block _ a => firstRegion a
  | .scope a => firstRegion a
  | .loop a => firstRegion a
  | _ => 0

def loopK {α : Type} (body : (AX → Env → St → Option α) → Env → St → Option α) (lv : Option (List Nat)) (nb nt : Nat) (k : AX → Env → St → Option α) : Nat → Env → St → Option α
  | 0, _, _ => none
  | m + 1, e, s => body (fun x e' s' => match x with
      | .normal => (match e'.ds with
        | [] => loopK body lv nb nt k m (killE lv (keep (depth s') nb (rightsLeft nb nt s')) e') (trim nb nt s')
        | _ => none)
      | x => k x e' s') e s

noncomputable def acode {α : Type} (X : Cx) (cf : CallF) (n : Nat) (lv : Nat → Option (List Nat)) : Code → (AX → Env → St → Option α) → Env → St → Option α
  | .skip, k, e, s => k .normal e s
  | .label _, k, e, s => k .normal e s
  | .region _ ops draw, k, e, s =>
    if draw = true then (if drawOk ops.toList = true then aOpsD X cf ops.toList (masks ops.toList []) (orderD ops.toList) [] [] e s (k .normal) else none)
    else aOps X cf ops.toList ops.toList e s (k .normal)
  | .seq a b, k, e, s => acode X cf n lv a (fun x e' s' => match x with
      | .normal => acode X cf n lv b k e' s'
      | x => k x e' s') e s
  | .cond c a b, k, e, s => (match eva X e c with
      | .v (.bool t) => if t = true then acode X cf n lv a k e s else acode X cf n lv b k e s
      | _ => none)
  | .block id a, k, e, s => acode X cf n lv a (fun x e' s' => match x with
      | .exit j => if j = id then k .normal e' s' else k (.exit j) e' s'
      | x => k x e' s') e s
  | .loop a, k, e, s => loopK (acode X cf n lv a) (lv (firstRegion a)) (topB s) (topN (lv (firstRegion a)) s) k n (killE (lv (firstRegion a)) (fun x => x) e) s
  | .exit id, k, e, s => k (.exit id) e s
  | .scope a, k, e, s => acode X cf n lv a k e s
  | .ret, k, e, s => k .ret e s
  | _, _, _, _ => none

/-- What a result is worth when its frame is gone: a slice of the frame's own becomes plain data. -/
def outV (d : Nat) (f : Frm) (P : Program) (x : AV) : AV :=
  match x with
  | .list (.own d' _) n cs => if d' < d then x else .list .none n cs
  | .ptr d' _ _ => if d' < d then x else .undef
  | .msl d' k off n c => if d' < d then x else (match f.blks[k]? with
    | some b => (match dvs ((b.cells.drop off).take (n * P.cellsOf b.ty)) with
      | some cs => if 0 < P.cellsOf b.ty ∧ off + n * P.cellsOf b.ty ≤ b.cells.length then .list (if n = c then .full else .none) n cs else .undef
      | none => .undef)
    | none => .undef)
  | .fn _ caps => if caps.all (capOk fun d' _ => decide (d' < d)) = true then x else .undef
  | .agg cs => .agg (cs.map bareCell)
  | .tuple _ => .undef
  | x => x
def aResult (X : Cx) (e : Env) (s : St) : ResultVar → Option AV
  | .tmp t => some (e.tmps.getD t .undef)
  | .cell a t => aLoad X.P t (e.tmps.getD a .undef) s
def aResults (X : Cx) (e : Env) (s : St) : List ResultVar → Option (List AV)
  | [] => some []
  | r :: rs => (aResult X e s r).bind fun x => (aResults X e s rs).map (x :: ·)
def leave (P : Program) (xs : List AV) (s : St) : Res :=
  match s with
  | [] => none
  | f :: r => some (match xs.map (outV r.length f P) with | [x] => x | l => .tuple l, r)
/-- A list of the frame's own that is handed back with the right to grow. -/
def leaveG (P : Program) (xs : List AV) (s : St) : Res :=
  match xs, s with
  | [.list (.own d k) n cs], f :: f1 :: r => if d = r.length + 1 ∧ f.toks[k]? = some n ∧ 0 < n then some (.list (.own r.length f1.toks.length) n cs, { f1 with toks := f1.toks ++ [n] } :: r) else leave P xs s
  | _, _ => leave P xs s
def goOut (X : Cx) (f : FuncId) (xs : List AV) (s : St) : Res :=
  match X.gives f with
  | true => leaveG X.P xs s
  | false => leave X.P xs s
/-- A mark among the deferred calls, of which nothing is known. -/
def MARK : Nat := 1000000000000
def runDefers (df : CallF) : List (FuncId × List AV) → St → Option St
  | [], s => some s
  | p :: r, s => match Nat.beq p.1 MARK with
    | true => none
    | false => (df p.1 p.2 s).bind fun q => runDefers df r q.2
def aEnd (X : Cx) (f : FuncId) (df : CallF) (rs : List ResultVar) : AX → Env → St → Res
  | .exit _, _, _ => none
  | _, e, s => (runDefers df e.ds s).bind fun s' => (aResults X e s' rs).bind fun xs => goOut X f xs s'
/-- The end of a call that has deferred nothing. -/
def aEndN (X : Cx) (rs : List ResultVar) : AX → Env → St → Res
  | .exit _, _, _ => none
  | _, e, s => match e.ds with
    | [] => (aResults X e s rs).bind fun xs => leave X.P xs s
    | _ => none

noncomputable def abody (X : Cx) (cf : CallF) (n : Nat) (f : FuncId) (fn : Func) (c : Code) (fin : AX → Env → St → Res) (args : List AV) (s : St) : Res :=
  acode X cf n (X.live f) c fin { tmps := args ++ List.replicate (fn.ntmps - args.length) .undef, ds := [] } ({ blks := [], toks := [] } :: s)

/-- A deferred call. -/
noncomputable def adef (X : Cx) (cf : CallF) (n : Nat) : CallF := fun f args s =>
  match X.oracle f with
  | some _ => none
  | none => match X.P.funcs[f]? with
    | none => none
    | some fn => match fn.body with
      | none => none
      | some c => abody X cf n f fn c (aEndN X fn.results.toList) args s

noncomputable def acall (X : Cx) : Nat → CallF
  | 0 => fun _ _ _ => none
  | n + 1 => fun f args s =>
    match X.oracle f with
    | some g => g args s
    | none => match X.P.funcs[f]? with
      | none => none
      | some fn => match fn.body with
        | none => none
        | some c => abody X (acall X n) n f fn c (aEnd X f (adef X (acall X n) n) fn.results.toList) args s
end Go.Proofs.YtnfdepafmmibaaaDoor

/-! The abstract machine against Go's memory: what it means that a world holds what the machine says. Conditions: none; definitions and small facts. -/
set_option linter.unusedVariables false
set_option linter.unusedSimpArgs false
namespace Go.Proofs.YtnfdepafmmibaaaDoor
open Go

/-- What a block of the world is to the machine. -/
inductive Stt where
  | free
  | wr (d k : Nat)
  | imm (lim : Nat) (own : Option (Nat × Nat))

structure Gh where
  st : Nat → Stt
  bl : Nat → Nat → Option Nat
  cur : Nat → Nat → Option (Nat × Nat × Value)
  /-- Blocks that the machine has and the world has not yet. -/
  no : Nat → Nat → Prop

inductive DRel (st : Nat → Stt) (w : World) : DV → Value → Prop
  | v {x : Value} (h : scalar x = true) : DRel st w (.v x) x
  | nil {a : Option Addr} {c : Nat} : DRel st w (.list 0 []) (.slice a 0 c)
  | list {n : Nat} {cells : List DV} {g off c lim : Nat} {own : Option (Nat × Nat)} (xs : Nat → Value) (hn : n ≤ c) (hg : st g = .imm lim own) (hl : off + cells.length ≤ lim) (hne : cells ≠ [])
      (hc : ∀ j x, cells[j]? = some x → w.cell? ⟨g, off + j, none⟩ = some (xs j))
      (hx : ∀ j x, cells[j]? = some x → DRel st w x (xs j)) : DRel st w (.list n cells) (.slice (some ⟨g, off, none⟩) n c)

def TagOk (G : Gh) (tag : Tag) (n len : Nat) (u : Value) : Prop :=
  match tag with
  | .none => True
  | .full => ∃ a, u = .slice a n n
  | .own d k => ∃ m l u', G.cur d k = some (m, l, u') ∧ n ≤ m ∧ (n = m → u = u' ∧ len = l)

inductive VRel (G : Gh) (w : World) : AV → Value → Prop
  | undef {x : Value} : VRel G w .undef x
  | v {x : Value} (h : scalar x = true) : VRel G w (.v x) x
  | list {tag : Tag} {n : Nat} {cells : List DV} {u : Value} (h : DRel G.st w (.list n cells) u) (ht : TagOk G tag n cells.length u) : VRel G w (.list tag n cells) u
  | ptr {d k off g : Nat} (h : G.bl d k = some g) : VRel G w (.ptr d k off) (.pointer (some ⟨g, off, none⟩))
  | lptr {cells : List DV} {off g o n c : Nat} (hne : cells ≠ []) (h : DRel G.st w (.list n cells) (.slice (some ⟨g, o, none⟩) n c)) : VRel G w (.lptr cells off) (.pointer (some ⟨g, o + off, none⟩))
  | msl {d k off n c g : Nat} (h : G.bl d k = some g) (hn : n ≤ c) : VRel G w (.msl d k off n c) (.slice (some ⟨g, off, none⟩) n c)
  | fn {f : FuncId} {caps : List AV} {cs : Array Value} (hs : cs.size = caps.length) (h : ∀ j x, caps[j]? = some x → VRel G w x (cs.getD j undef)) : VRel G w (.fn f caps) (.func (.func f) #[] cs)
  | agg {xs : List AV} {cs : Array Value} (h1 : ∀ x ∈ cs, x.oneCell' = true) (hs : cs.size = xs.length) (h : ∀ j x, xs[j]? = some x → VRel G w x (cs.getD j undef)) : VRel G w (.agg xs) (.agg cs)
  | tuple {xs : List AV} {cs : Array Value} (hs : cs.size = xs.length) (h : ∀ j x, xs[j]? = some x → VRel G w x (cs.getD j undef)) : VRel G w (.tuple xs) (.tuple cs)

/-- A growing list's own block. -/
def Own (G : Gh) (w : World) (d k m l : Nat) (u : Value) : Prop :=
  (∃ a, u = .slice a 0 0 ∧ m = 0 ∧ l = 0) ∨
  ∃ g c sz ty cs, u = .slice (some ⟨g, 0, none⟩) m c ∧ 0 < m ∧ m ≤ c ∧ G.st g = .imm l (some (d, k)) ∧ w.heap[g]? = some (.cells cs ty (0, 0)) ∧ l = m * sz ∧ cs.size = c * sz

structure Rel (X : Cx) (G : Gh) (s : St) (w : World) : Prop where
  st : ∀ d k g, G.bl d k = some g ↔ G.st g = .wr d k
  blk : ∀ d k g, G.bl d k = some g → ∃ b cs, getBlk s d k = some b ∧ w.heap[g]? = some (.cells cs b.ty (0, 0)) ∧ cs.size = b.cells.length ∧ (∀ x ∈ cs, x.oneCell' = true) ∧ ∀ j x, b.cells[j]? = some x → VRel G w x (cs.getD j undef)
  fit : ∀ d k b, getBlk s d k = some b → (∀ x ∈ b.cells, fit d k b.tk x = x)
  tok : ∀ d k m l u, G.cur d k = some (m, l, u) → getTok s d k = some m ∧ Own G w d k m l u
  glob : ∀ g, VRel G w (X.gl g) (.pointer (some ⟨g, 0, none⟩))
  free : ∀ g, w.heap.size ≤ g → G.st g = .free
  no : ∀ d k, G.no d k → G.bl d k = none ∧ ∃ b, getBlk s d k = some b

structure Ext (G : Gh) (w : World) (G' : Gh) (w' : World) : Prop where
  os : w'.os = w.os
  tape : w'.tape = w.tape
  output : w'.output = w.output
  size : w.heap.size ≤ w'.heap.size
  free : ∀ g, g < w.heap.size → G.st g = .free → w'.heap[g]? = w.heap[g]? ∧ G'.st g = .free
  bl : ∀ d k g, G.bl d k = some g → G'.bl d k = some g
  imm : ∀ g lim own, G.st g = .imm lim own → ∃ lim' own', G'.st g = .imm lim' own' ∧ lim ≤ lim' ∧ (∀ j, j < lim → w'.cell? ⟨g, j, none⟩ = w.cell? ⟨g, j, none⟩) ∧ (own = none → w'.heap[g]? = w.heap[g]? ∧ own' = none)
  cur : ∀ d k m l u, G.cur d k = some (m, l, u) → ∃ m' l' u', G'.cur d k = some (m', l', u') ∧ m ≤ m' ∧ (m = m' → u = u' ∧ l = l')
  no : ∀ d k, G.no d k → G'.no d k

theorem Ext.refl (G : Gh) (w : World) : Ext G w G w :=
  ⟨rfl, rfl, rfl, Nat.le_refl _, fun _ _ h => ⟨rfl, h⟩, fun _ _ _ h => h, fun g lim own h => ⟨lim, own, h, Nat.le_refl _, fun _ _ => rfl, fun ho => ⟨rfl, ho⟩⟩,
    fun d k m l u h => ⟨m, l, u, h, Nat.le_refl _, fun _ => ⟨rfl, rfl⟩⟩, fun _ _ h => h⟩

theorem Ext.trans {G G1 G2 : Gh} {w w1 w2 : World} (h : Ext G w G1 w1) (k : Ext G1 w1 G2 w2) : Ext G w G2 w2 where
  os := k.os.trans h.os
  tape := k.tape.trans h.tape
  output := k.output.trans h.output
  size := Nat.le_trans h.size k.size
  free g hg hf := by
    obtain ⟨a, b⟩ := h.free g hg hf
    obtain ⟨c, d⟩ := k.free g (Nat.lt_of_lt_of_le hg h.size) b
    exact ⟨c.trans a, d⟩
  bl d c g hg := k.bl d c g (h.bl d c g hg)
  imm g lim own hg := by
    obtain ⟨l1, o1, a1, b1, c1, d1⟩ := h.imm g lim own hg
    obtain ⟨l2, o2, a2, b2, c2, d2⟩ := k.imm g l1 o1 a1
    refine ⟨l2, o2, a2, Nat.le_trans b1 b2, fun j hj => (c2 j (Nat.lt_of_lt_of_le hj b1)).trans (c1 j hj), fun ho => ?_⟩
    obtain ⟨e1, f1⟩ := d1 ho
    obtain ⟨e2, f2⟩ := d2 f1
    exact ⟨e2.trans e1, f2⟩
  cur d c m l u hc := by
    obtain ⟨m1, l1, u1, a1, b1, c1⟩ := h.cur d c m l u hc
    obtain ⟨m2, l2, u2, a2, b2, c2⟩ := k.cur d c m1 l1 u1 a1
    refine ⟨m2, l2, u2, a2, Nat.le_trans b1 b2, fun e => ?_⟩
    have e1 : m = m1 := by omega
    have e2 : m1 = m2 := by omega
    exact ⟨(c1 e1).1.trans (c2 e2).1, (c1 e1).2.trans (c2 e2).2⟩
  no d c h1 := k.no d c (h.no d c h1)

theorem DRel.ext {G G' : Gh} {w w' : World} (he : Ext G w G' w') {x : DV} {y : Value} (h : DRel G.st w x y) : DRel G'.st w' x y := by
  induction h with
  | v h => exact .v h
  | nil => exact .nil
  | list xs hn hg hl hne hc hx ih =>
    obtain ⟨l', o', a, b, c, _⟩ := he.imm _ _ _ hg
    refine .list xs hn a (Nat.le_trans hl b) hne (fun j x hj => ?_) ih
    have hlt := (List.getElem?_eq_some_iff.1 hj).1
    rw [c _ (by omega)]
    exact hc j x hj

theorem TagOk.ext {G G' : Gh} {w w' : World} (he : Ext G w G' w') {tag : Tag} {n len : Nat} {u : Value} (h : TagOk G tag n len u) : TagOk G' tag n len u := by
  cases tag with
  | none => trivial
  | full => exact h
  | own d k =>
    obtain ⟨m, l, u', a, b, c⟩ := h
    obtain ⟨m', l', u'', a', b', c'⟩ := he.cur d k m l u' a
    refine ⟨m', l', u'', a', Nat.le_trans b b', fun e => ?_⟩
    have e1 : n = m := by omega
    have e2 : m = m' := by omega
    exact ⟨(c e1).1.trans (c' e2).1, (c e1).2.trans (c' e2).2⟩

theorem VRel.ext {G G' : Gh} {w w' : World} (he : Ext G w G' w') {x : AV} {y : Value} (h : VRel G w x y) : VRel G' w' x y := by
  induction h with
  | undef => exact .undef
  | v h => exact .v h
  | list h ht => exact .list (h.ext he) (ht.ext he)
  | ptr h => exact .ptr (he.bl _ _ _ h)
  | lptr hne h => exact .lptr hne (h.ext he)
  | msl h hn => exact .msl (he.bl _ _ _ h) hn
  | fn hs _ ih => exact .fn hs ih
  | agg h1 hs _ ih => exact .agg h1 hs ih
  | tuple hs _ ih => exact .tuple hs ih

/-! ### What does not look at memory -/
theorem pureRun_run {α : Type} {P : Program} {e : Sem α} {a : α} (h : pureRun P e = some a) (w : World) : e.run P w = .ok a w := by
  induction e with
  | pure b => simp [pureRun] at h; subst h; rfl
  | program k ih => exact ih P h
  | _ => simp [pureRun] at h

theorem ofCell_rel (G : Gh) (w : World) (x : Value) : VRel G w (ofCell x) x := by
  unfold ofCell
  split
  · split
    · rename_i h; obtain ⟨rfl, rfl⟩ := h; exact .list .nil ⟨none, rfl⟩
    · exact .undef
  · split
    · rename_i h; exact .v h
    · exact .undef

theorem getD_toList (cs : Array Value) (j : Nat) {x : AV} (h : (cs.toList.map ofCell)[j]? = some x) : x = ofCell (cs.getD j undef) := by
  rw [List.getElem?_map] at h
  cases hj : cs.toList[j]? with
  | none => rw [hj] at h; simp at h
  | some y =>
    rw [hj] at h
    simp at h
    have : cs[j]? = some y := by simpa using hj
    simp [Array.getD_eq_getD_getElem?, this, ← h]

theorem ofVal_rel (G : Gh) (w : World) (x : Value) : VRel G w (ofVal x) x := by
  unfold ofVal
  split
  · split
    · rename_i h1
      exact .agg (fun x hx => List.all_eq_true.1 h1 x (Array.mem_toList_iff.2 hx)) (by simp) fun j x h => by rw [getD_toList _ j h]; exact ofCell_rel G w _
    · exact .undef
  · exact .tuple (by simp) fun j x h => by rw [getD_toList _ j h]; exact ofCell_rel G w _
  · exact ofCell_rel G w _

theorem vals_rel {G : Gh} {w : World} : ∀ {xs : List AV} {vs : List Value} {cs : Array Value}, vals xs = some vs → cs.size = xs.length → (∀ j x, xs[j]? = some x → VRel G w x (cs.getD j undef)) → cs = vs.toArray := by
  intro xs
  have key : ∀ (xs : List AV) (vs : List Value) (cs : List Value), vals xs = some vs → cs.length = xs.length → (∀ j x, xs[j]? = some x → VRel G w x (cs.getD j undef)) → cs = vs := by
    intro xs
    induction xs with
    | nil => intro vs cs h hl _; simp [vals] at h; subst h; exact List.eq_nil_of_length_eq_zero (by simpa using hl)
    | cons x r ih =>
      intro vs cs h hl hr
      cases x with
      | v y =>
        simp only [vals, Option.map_eq_some_iff] at h
        obtain ⟨l, h1, rfl⟩ := h
        cases cs with
        | nil => simp at hl
        | cons c cs =>
          have h0 := hr 0 (.v y) rfl
          simp at h0
          cases h0
          rw [ih l cs h1 (by simpa using hl) (fun j x hj => by simpa using hr (j + 1) x (by simpa using hj))]
      | _ => simp [vals] at h
  intro vs cs h hs hr
  have := key xs vs cs.toList h (by simpa using hs) (fun j x hj => by simpa [Array.getD_eq_getD_getElem?, List.getD_eq_getElem?_getD] using hr j x hj)
  rw [← this]

theorem val_rel {G : Gh} {w : World} {x : AV} {y a : Value} (h : VRel G w x y) (hv : x.val = some a) : y = a := by
  cases x with
  | v z => cases h; simpa [AV.val] using hv
  | agg cs =>
    cases h with
    | agg _ hs hr =>
      simp only [AV.val, Option.map_eq_some_iff] at hv
      obtain ⟨l, h1, rfl⟩ := hv
      rw [vals_rel h1 hs hr]
  | _ => simp [AV.val] at hv
end Go.Proofs.YtnfdepafmmibaaaDoor

/-! Each operation that gives a value and leaves memory alone does in Go what the machine says. -/
set_option linter.unusedVariables false
set_option linter.unusedSimpArgs false
namespace Go.Proofs.YtnfdepafmmibaaaDoor
open Go

/-- The arguments of a call. -/
structure ARel (G : Gh) (w : World) (xs : List AV) (vs : Array Value) : Prop where
  size : vs.size = xs.length
  at_ : ∀ j x, xs[j]? = some x → VRel G w x (vs.getD j undef)
theorem ARel.ext {G G' : Gh} {w w' : World} {xs : List AV} {vs : Array Value} (h : ARel G w xs vs) (he : Ext G w G' w') : ARel G' w' xs vs := ⟨h.size, fun j x hj => (h.at_ j x hj).ext he⟩
/-- A call that was put off. -/
def DefRel (G : Gh) (w : World) (p : FuncId × List AV) (d : Deferred) : Prop :=
  (p.1 = MARK ∧ ∃ D : Nat, p.2 = [.v (.int .i64 D), .list .none 1 []] ∧ d = { target := .collected D, args := #[] }) ∨ ∃ caps args, d = { target := .fn (.func p.1) caps, args := args } ∧ ARel G w p.2 (args ++ caps)
structure EnvRel (G : Gh) (w : World) (e : Env) (a : Act) : Prop where
  size : a.tmps.size = e.tmps.length
  tmp : ∀ t x, e.tmps[t]? = some x → VRel G w x (a.tmps.getD t undef)
  dlen : a.defers.length = e.ds.length
  dat : ∀ (i : Nat) (p : FuncId × List AV), e.ds[i]? = some p → ∃ d, a.defers[i]? = some d ∧ DefRel G w p d

theorem DefRel.ext {G G' : Gh} {w w' : World} {p : FuncId × List AV} {d : Deferred} (h : DefRel G w p d) (he : Ext G w G' w') : DefRel G' w' p d := by
  rcases h with h | ⟨caps, args, h1, h2⟩
  · exact .inl h
  · exact .inr ⟨caps, args, h1, h2.ext he⟩
theorem EnvRel.ext {G G' : Gh} {w w' : World} {e : Env} {a : Act} (h : EnvRel G w e a) (he : Ext G w G' w') : EnvRel G' w' e a :=
  ⟨h.size, fun t x hx => (h.tmp t x hx).ext he, h.dlen, fun i p hi => by
    obtain ⟨d, h1, h2⟩ := h.dat i p hi
    exact ⟨d, h1, h2.ext he⟩⟩
theorem EnvRel.slot {G : Gh} {w : World} {e : Env} {a : Act} (h : EnvRel G w e a) (t : Nat) : VRel G w (e.tmps.getD t .undef) (a.tmps.getD t undef) := by
  rw [List.getD_eq_getElem?_getD]
  cases ht : e.tmps[t]? with
  | none => exact .undef
  | some x => exact h.tmp t x ht
theorem eva_rel {X : Cx} {G : Gh} {s : St} {w : World} {e : Env} {a : Act} (hR : Rel X G s w) (h : EnvRel G w e a) (x : Operand) : VRel G w (eva X e x) (a.eval x) := by
  cases x with
  | tmp t => exact h.slot t
  | const v => exact ofVal_rel G w v
  | global g => exact hR.glob g
  | func f => exact .fn (by simp) (fun j x hj => by simp at hj)

theorem EnvRel.put {G : Gh} {w : World} {e : Env} {a : Act} (h : EnvRel G w e a) {x : AV} {y : Value} (hx : VRel G w x y) (d : Option Tmp) : EnvRel G w (e.put d x) (a.put d y) := by
  cases d with
  | none => exact h
  | some t =>
    refine ⟨by simp [Env.put, Act.put, h.size], fun u z hz => ?_, h.dlen, h.dat⟩
    simp only [Env.put] at hz
    rw [List.getElem?_set] at hz
    simp only [Act.put, Array.getD_eq_getD_getElem?, Array.getElem?_setIfInBounds]
    by_cases htu : t = u
    · subst htu
      rw [if_pos rfl] at hz
      split at hz
      · rename_i hlt
        injection hz with hz
        subst hz
        simp [h.size, hlt, hx]
      · cases hz
    · rw [if_neg htu] at hz
      rw [if_neg htu]
      simpa [Array.getD_eq_getD_getElem?] using h.tmp u z hz

/-- A reckoning that leaves the world alone. -/
def Ok0 (X : Cx) (G : Gh) (w : World) (e : Sem Value) (x : AV) : Prop := ∃ y, e.run X.P w = .ok y w ∧ VRel G w x y
/-- A reckoning that may lay new blocks. -/
def Ok1 (X : Cx) (G : Gh) (s s' : St) (w : World) (e : Sem Value) (x : AV) : Prop :=
  ∃ y w' G', e.run X.P w = .ok y w' ∧ Rel X G' s' w' ∧ Ext G w G' w' ∧ VRel G' w' x y
theorem Ok0.one {X : Cx} {G : Gh} {s : St} {w : World} {e : Sem Value} {x : AV} (h : Ok0 X G w e x) (hR : Rel X G s w) : Ok1 X G s s w e x := by
  obtain ⟨y, h1, h2⟩ := h
  exact ⟨y, w, G, h1, hR, .refl G w, h2⟩

section
variable {X : Cx} {G : Gh} {w : World}

theorem run_underlying' {t : TypeId} {d : TypeDesc} (h : X.P.underlying t = some d) (w : World) : (underlying t).run X.P w = .ok d w := by
  simp [underlying, h]
theorem run_typeInfo' {t : TypeId} {i : TypeInfo} (h : X.P.info? t = some i) (w : World) : (typeInfo t).run X.P w = .ok i w := by
  simp [typeInfo, h]
theorem cells_info {P : Program} {e : TypeId} (h : 0 < P.cellsOf e) : ∃ i, P.info? e = some i ∧ i.size = P.cellsOf e := by
  unfold Program.cellsOf at h ⊢
  cases hi : P.info? e with
  | none => simp [hi] at h
  | some i => exact ⟨i, rfl, by simp⟩
theorem run_sizeOf' {e : TypeId} (h : 0 < X.P.cellsOf e) (w : World) : (sizeOf e).run X.P w = .ok (X.P.cellsOf e) w := by
  obtain ⟨i, hi, hs⟩ := cells_info h
  simp [sizeOf, run_typeInfo' hi, hs]
theorem run_isAgg' {t : TypeId} {d : TypeDesc} (h : X.P.underlying t = some d) (w : World) :
    (isAgg t).run X.P w = .ok (aggD d) w := by
  simp only [isAgg, Sem.run_bind, run_underlying' h, Result.andThen_ok]
  cases d <;> rfl

theorem ok_pick {c a b x : AV} {vc va vb : Value} (hc : VRel G w c vc) (ha : VRel G w a va) (hb : VRel G w b vb) (h : aPick c a b = some x) :
    Ok0 X G w (do pure (if ← asBool vc then va else vb)) x := by
  unfold aPick at h
  split at h
  · cases hc
    injection h with h
    subst h
    rename_i t _
    cases t
    · exact ⟨vb, by simp [asBool], by simpa using hb⟩
    · exact ⟨va, by simp [asBool], by simpa using ha⟩
  · cases h

theorem ok_bin {op : BinOp} {t : TypeId} {ox oy : Operand} {a b x : AV} {va vb : Value} (ha : VRel G w a va) (hb : VRel G w b vb) (h : aBin X.P op t a b = some x) :
    Ok0 X G w (do eqGuard op t ox oy va vb; binOp op t va vb) x := by
  unfold aBin at h
  split at h
  · rename_i p q hp hq
    obtain rfl := val_rel ha hp
    obtain rfl := val_rel hb hq
    unfold aBinV at h
    split at h
    · cases h
    · rename_i hn
      simp only [Option.map_eq_some_iff] at h
      obtain ⟨r, hr, rfl⟩ := h
      refine ⟨r, ?_, ofVal_rel G w r⟩
      have := pureRun_run hr w
      have he : eqGuard op t ox oy va vb = eqGuard op t (.tmp 0) (.tmp 0) va vb := by
        unfold eqGuard
        congr 1
        cases va <;> cases vb <;> first | rfl | (simp [nilIfaces] at hn)
      rw [he]
      exact this
  · cases h

theorem run_nilcmp {t e : TypeId} {d : Addr} {n c : Nat} (ht : X.P.underlying t = some (.slice e)) (w : World) : (Op.equal t (.slice (some d) n c) (.slice none 0 0)).run X.P w = .ok false w := by
  unfold Op.equal Op.maxDepth
  rw [show (10000 : Nat) = 9999 + 1 from rfl, Op.equalIn]
  simp [Sem.run_bind, run_underlying' ht]
theorem ok_nilcmp {op : BinOp} {t : TypeId} {ox q : Operand} {a x : AV} {va : Value} (hq : isNilC q = true) (ha : VRel G w a va) (h : aNilCmp X.P op t a = some x) {act : Act} :
    Ok0 X G w (do eqGuard op t ox q va (act.eval q); binOp op t va (act.eval q)) x := by
  have hqe : q = .const (.slice none 0 0) := by
    unfold isNilC at hq
    split at hq
    · rfl
    · cases hq
  subst hqe
  have hv : act.eval (.const (.slice none 0 0)) = .slice none 0 0 := rfl
  rw [hv]
  have hs : ∀ d n c e, X.P.underlying t = some (.slice e) → va = .slice (some d) n c → (op = .eql ∨ op = .neq) → (do eqGuard op t ox (.const (.slice none 0 0)) va (.slice none 0 0); binOp op t va (.slice none 0 0)).run X.P w = .ok (.bool (decide (op = .neq))) w := by
    intro d n c e ht hva hop
    subst hva
    have hr := run_nilcmp (d := d) (n := n) (c := c) ht w
    rcases hop with rfl | rfl
    · simp [eqGuard, binOp, Sem.run_bind, hr]
    · simp [eqGuard, binOp, Sem.run_bind, hr]
  unfold aNilCmp at h
  split at h
  · rename_i e ht
    cases ha with
    | list hd _ =>
      cases hd with
      | list => injection h with h; subst h; exact ⟨_, hs _ _ _ _ ht rfl (.inl rfl), .v rfl⟩
  · rename_i e ht
    cases ha with
    | list hd _ =>
      cases hd with
      | list => injection h with h; subst h; exact ⟨_, hs _ _ _ _ ht rfl (.inr rfl), .v rfl⟩
  · rename_i e ht
    cases ha with
    | msl => injection h with h; subst h; exact ⟨_, hs _ _ _ _ ht rfl (.inl rfl), .v rfl⟩
  · rename_i e ht
    cases ha with
    | msl => injection h with h; subst h; exact ⟨_, hs _ _ _ _ ht rfl (.inr rfl), .v rfl⟩
  · cases h

theorem ok_un {op : UnOp} {a x : AV} {va : Value} (ha : VRel G w a va) (h : aUn X.P op a = some x) : Ok0 X G w (Op.unary op va) x := by
  unfold aUn at h
  split at h
  · rename_i p hp
    obtain rfl := val_rel ha hp
    simp only [Option.map_eq_some_iff] at h
    obtain ⟨r, hr, rfl⟩ := h
    exact ⟨r, pureRun_run hr w, ofVal_rel G w r⟩
  · cases h

theorem ok_len {t ty : TypeId} {ts : Array TypeId} {args : Array Value} {a x : AV} {va : Value} (ht : ts[0]? = some t) (hv : args[0]? = some va) (ha : VRel G w a va) (h : aLen X.P t a = some x) :
    Ok0 X G w (Builtin.len_ ts ty args) x := by
  unfold aLen at h
  split at h
  · rename_i hu
    injection h with h
    subst h
    cases ha with
    | list hd _ =>
      cases hd <;> exact ⟨_, by simp [Builtin.len_, ht, hv, run_underlying' hu]; rfl, .v rfl⟩
  · rename_i hu
    injection h with h
    subst h
    cases ha with
    | msl hb hn => exact ⟨_, by simp [Builtin.len_, ht, hv, run_underlying' hu]; rfl, .v rfl⟩
  · rename_i hu
    injection h with h
    subst h
    cases ha
    exact ⟨_, by simp [Builtin.len_, ht, hv, run_underlying' hu]; rfl, .v rfl⟩
  · rename_i hu
    injection h with h
    subst h
    refine ⟨_, ?_, .v rfl⟩
    · simp only [Builtin.len_, ht, hv, Sem.run_bind, run_underlying' hu, Result.andThen_ok]
      cases va <;> rfl
  · cases h

theorem getD_drop_take {xs : List AV} {cs : Array Value} (h1 : ∀ x ∈ cs, x.oneCell' = true) (hs : cs.size = xs.length) (h : ∀ j x, xs[j]? = some x → VRel G w x (cs.getD j undef)) (off n : Nat) :
    VRel G w (.agg ((xs.drop off).take n)) (.agg (cs.extract off (off + n))) := by
  refine .agg (fun x hx => h1 x (by obtain ⟨i, hi, rfl⟩ := Array.mem_iff_getElem.1 hx; simp)) (by simp [hs]; omega) fun j x hj => ?_
  rw [List.getElem?_take] at hj
  split at hj
  · rename_i hlt
    rw [List.getElem?_drop] at hj
    have := h _ _ hj
    have hl := (List.getElem?_eq_some_iff.1 hj).1
    rw [Array.getD_eq_getD_getElem?] at this ⊢
    rw [Array.getElem?_extract]
    rw [if_pos (by omega)]
    exact this
  · cases hj

theorem ok_part {t : TypeId} {xs : List AV} {cs : Array Value} {off : Nat} {x : AV} (h1 : ∀ x ∈ cs, x.oneCell' = true) (hs : cs.size = xs.length) (hx : ∀ j x, xs[j]? = some x → VRel G w x (cs.getD j undef)) (h : aPart X.P t xs off = some x) :
    Ok0 X G w (part t cs off) x := by
  unfold aPart at h
  split at h
  · rename_i p hp
    unfold tyOf at hp
    split at hp
    · rename_i d i hd hi
      injection hp with hp
      subst hp
      by_cases hb : aggD d = true
      · simp only [hb, if_true] at h
        injection h with h
        subst h
        refine ⟨_, ?_, getD_drop_take h1 hs hx off i.size⟩
        simp [part, run_isAgg' hd, hb, sizeOf, run_typeInfo' hi]
      · simp only [hb] at h
        have hlt := (List.getElem?_eq_some_iff.1 h).1
        have hcs : cs[off]? = some (cs.getD off undef) := by simp [Array.getD_eq_getD_getElem?, Array.getElem?_eq_getElem (show off < cs.size by omega)]
        refine ⟨cs.getD off undef, ?_, hx off x h⟩
        simp only [part, Sem.run_bind, run_isAgg' hd, Result.andThen_ok]
        simp only [hb, hcs]
        rfl
    · cases hp
  · cases h

theorem ok_field {t : TypeId} {f : Nat} {a x : AV} {va : Value} (ha : VRel G w a va) (h : aField X.P t a f = some x) : Ok0 X G w (Instr.field t va f) x := by
  unfold aField at h
  split at h
  · rename_i hu
    cases ha with
    | agg h1' hs hx =>
      split at h
      · rename_i fd hf
        obtain ⟨y, h1, h2⟩ := ok_part (X := X) h1' hs hx h
        exact ⟨y, by simp [Instr.field, run_underlying' hu, hf, asAgg, h1], h2⟩
      · cases h
  · cases h

theorem ok_index {t : TypeId} {a i x : AV} {va vi : Value} (ha : VRel G w a va) (hi : VRel G w i vi) (h : aIndex X.P t a i = some x) : Ok0 X G w (Instr.index t va vi) x := by
  unfold aIndex at h
  split at h
  · rename_i hu
    cases hi
    cases ha with
    | agg h1' hs hx =>
      split at h
      · rename_i hc
        obtain ⟨y, h1, h2⟩ := ok_part (X := X) h1' hs hx h
        refine ⟨y, ?_, h2⟩
        simp only [Instr.index, asIntOf, Sem.run_bind, Sem.run_pure, Result.andThen_ok, run_underlying' hu]
        rw [if_pos ⟨hc.1, hc.2.1⟩]
        simp [run_sizeOf' hc.2.2, h1]
      · cases h
  · rename_i hu
    cases hi
    cases ha
    split at h
    · rename_i h0
      split at h
      · rename_i c hc
        injection h with h
        subst h
        refine ⟨_, ?_, .v rfl⟩
        simp only [Instr.index, asIntOf, Sem.run_bind, Sem.run_pure, Result.andThen_ok, run_underlying' hu, h0, if_true, hc]
      · cases h
    · cases h
  · cases h

theorem ok_extract {a x : AV} {va : Value} {i : Nat} (ha : VRel G w a va) (h : aExtract a i = some x) : Ok0 X G w (Instr.extract va i) x := by
  unfold aExtract at h
  split at h
  · cases ha with
    | tuple hs hx =>
      rename_i vs cs
      have hlt := (List.getElem?_eq_some_iff.1 h).1
      have hcs : cs[i]? = some (cs.getD i undef) := by simp [Array.getD_eq_getD_getElem?, Array.getElem?_eq_getElem (show i < cs.size by omega)]
      exact ⟨cs.getD i undef, by simp only [Instr.extract, hcs]; rfl, hx i x h⟩
  · cases h

theorem ok_nil {a x : AV} {va : Value} (ha : VRel G w a va) (h : aNil a = some x) : VRel G w x va ∧ (∀ o : Oper, ∀ ρ : Operand → Value, ∀ z, o.op = .nilCheck z → ρ z = va → (execOp ρ o).run X.P w = .ok (.value va) w) := by
  unfold aNil at h
  split at h
  · injection h with h; subst h; refine ⟨ha, ?_⟩; cases ha; intro o ρ z ho hz; simp [execOp, ho, hz]
  · injection h with h; subst h; refine ⟨ha, ?_⟩; cases ha; intro o ρ z ho hz; simp [execOp, ho, hz]
  · injection h with h; subst h; refine ⟨ha, ?_⟩; cases ha; intro o ρ z ho hz; simp [execOp, ho, hz]
  · cases h

theorem ok_arr {t : TypeId} {a x : AV} {va : Value} (ha : VRel G w a va) (h : aArr X.P t a = some x) : Ok0 X G w (Instr.arrayAt t va) x := by
  unfold aArr at h
  split at h
  · rename_i hu
    cases ha with
    | msl hb hn =>
      split at h
      · rename_i hle
        injection h with h
        subst h
        refine ⟨_, ?_, .ptr hb⟩
        simp only [Instr.arrayAt, Sem.run_bind, run_underlying' hu, Result.andThen_ok]
        simp [Nat.not_lt.2 hle]
      · cases h
  · rename_i hu
    cases ha with
    | list hd _ =>
      split at h
      · rename_i hle
        injection h with h
        subst h
        cases hd with
        | list xs hn hg hl hne hc hx =>
          refine ⟨_, ?_, .lptr (off := 0) (by simp) (.list xs hn hg hl hne hc hx)⟩
          simp only [Instr.arrayAt, Sem.run_bind, run_underlying' hu, Result.andThen_ok]
          simp [Nat.not_lt.2 hle]
      · cases h
  · cases h
end
end Go.Proofs.YtnfdepafmmibaaaDoor

/-! Addresses, slices, struct and array literals, loads and conversions do in Go what the machine says. -/
set_option linter.unusedVariables false
set_option linter.unusedSimpArgs false
namespace Go.Proofs.YtnfdepafmmibaaaDoor
open Go

theorem add_at (g o n : Nat) : (⟨g, o, none⟩ : Addr).add n = ⟨g, o + n, none⟩ := by
  unfold Addr.add; split
  · rename_i h; subst h; rfl
  · rfl
theorem cell_of {w : World} {g : Nat} {cs : Array Value} {ty : TypeId} {fz : Nat × Nat} (h : w.heap[g]? = some (.cells cs ty fz)) (i : Nat) : w.cell? ⟨g, i, none⟩ = cs[i]? := by
  simp [World.cell?, h]
theorem some_getD {cs : Array Value} {i : Nat} (h : i < cs.size) : cs[i]? = some (cs.getD i undef) := by
  simp [Array.getD_eq_getD_getElem?, Array.getElem?_eq_getElem h]
def ORel (G : Gh) (w : World) (x : Option AV) (y : Option Value) : Prop :=
  match x, y with
  | none, none => True
  | some a, some b => VRel G w a b
  | _, _ => False

section
variable {X : Cx} {G : Gh} {w : World}

theorem nval_run {x : Option AV} {y : Option Value} {d n : Nat} (hr : ORel G w x y) (h : nval x d = some n) : (x = none ∧ y = none ∧ n = d) ∨ (∃ k i, x = some (.v (.int k i)) ∧ y = some (.int k i) ∧ 0 ≤ i ∧ n = i.toNat) := by
  cases x with
  | none => cases y with
    | none => left; simp [nval] at h; exact ⟨rfl, rfl, h.symm⟩
    | some y => exact hr.elim
  | some x => cases y with
    | none => exact hr.elim
    | some y =>
      right
      unfold nval at h
      split at h
      · rename_i heq; cases heq
      · rename_i k i heq
        injection heq with heq; subst heq
        split at h
        · rename_i h0
          injection h with h
          cases hr
          exact ⟨k, i, rfl, rfl, h0, h.symm⟩
        · cases h
      · cases h

theorem run_bound (k : IntKind) (i : Int) (y : Nat) (c : BoundsCode) (h0 : 0 ≤ i) (h1 : i.toNat ≤ y) : (Instr.sliceBound (.int k i) y c).run X.P w = .ok i.toNat w := by
  simp only [Instr.sliceBound, asIntOf, Sem.run_bind, Sem.run_pure, Result.andThen_ok]
  rw [if_pos ⟨h0, by omega⟩]; rfl

theorem bounds_run {lo hi mx : Option AV} {vl vh vm : Option Value} {n cap l h m : Nat} (b : Bool) (cc : Nat) (hl : ORel G w lo vl) (hh : ORel G w hi vh) (hm : ORel G w mx vm)
    (hb : bounds n cap lo hi mx = some (l, h, m)) (hc : cap ≤ cc) (hn : n ≤ cap) :
    (Instr.sliceBounds b n cc vl vh vm).run X.P w = .ok (l, h, if mx.isSome = true then m else cc) w ∧ l ≤ h ∧ h ≤ m ∧ m ≤ cap ∧ (hi = none → h = n) ∧ (mx = none → m = cap) := by
  unfold bounds at hb
  split at hb
  · rename_i l' h' m' e1 e2 e3
    split at hb
    · rename_i hcond
      injection hb with hb
      injection hb with hb1 hb2
      injection hb2 with hb2 hb3
      subst hb1 hb2 hb3
      obtain ⟨c1, c2, c3, c4⟩ := hcond
      refine ⟨?_, c1, c2, c3, ?_, ?_⟩
      · rcases nval_run hm e3 with ⟨rfl, rfl, rfl⟩ | ⟨km, im, rfl, rfl, hm0, rfl⟩
        · rcases nval_run hh e2 with ⟨rfl, rfl, rfl⟩ | ⟨kh, ih, rfl, rfl, hh0, rfl⟩
          · rcases nval_run hl e1 with ⟨rfl, rfl, rfl⟩ | ⟨kl, il, rfl, rfl, hl0, rfl⟩
            · simp [Instr.sliceBounds]
            · simp [Instr.sliceBounds, run_bound (X := X) (w := w) kl il h' _ hl0 c1]
          · rcases nval_run hl e1 with ⟨rfl, rfl, rfl⟩ | ⟨kl, il, rfl, rfl, hl0, rfl⟩
            · simp [Instr.sliceBounds, run_bound (X := X) (w := w) kh ih cc _ hh0 (by omega)]
            · simp [Instr.sliceBounds, run_bound (X := X) (w := w) kh ih cc _ hh0 (by omega), run_bound (X := X) (w := w) kl il ih.toNat _ hl0 c1]
        · rcases nval_run hh e2 with ⟨rfl, rfl, rfl⟩ | ⟨kh, ih, rfl, rfl, hh0, rfl⟩
          · simp at c4
          · rcases nval_run hl e1 with ⟨rfl, rfl, rfl⟩ | ⟨kl, il, rfl, rfl, hl0, rfl⟩
            · simp [Instr.sliceBounds, run_bound (X := X) (w := w) km im cc _ hm0 (by omega), run_bound (X := X) (w := w) kh ih im.toNat _ hh0 (by omega)]
            · simp [Instr.sliceBounds, run_bound (X := X) (w := w) km im cc _ hm0 (by omega), run_bound (X := X) (w := w) kh ih im.toNat _ hh0 (by omega), run_bound (X := X) (w := w) kl il ih.toNat _ hl0 c1]
      · rintro rfl; simp [nval] at e2; exact e2.symm
      · rintro rfl; simp [nval] at e3; exact e3.symm
    · cases hb
  · cases hb

theorem bounds_run_eq {lo hi mx : Option AV} {vl vh vm : Option Value} {n cap l h m : Nat} (b : Bool) (hl : ORel G w lo vl) (hh : ORel G w hi vh) (hm : ORel G w mx vm)
    (hb : bounds n cap lo hi mx = some (l, h, m)) (hn : n ≤ cap) :
    (Instr.sliceBounds b n cap vl vh vm).run X.P w = .ok (l, h, m) w ∧ l ≤ h ∧ h ≤ m ∧ m ≤ cap := by
  obtain ⟨hr, b1, b2, b3, b4, b5⟩ := bounds_run (X := X) b cap hl hh hm hb (Nat.le_refl _) hn
  refine ⟨?_, b1, b2, b3⟩
  rw [hr]
  cases mx with
  | none => simp [b5 rfl]
  | some _ => rfl

theorem DRel.n_le {st : Nat → Stt} {n c : Nat} {cs : List DV} {a : Option Addr} (h : DRel st w (.list n cs) (.slice a n c)) : n ≤ c := by
  cases h with
  | nil => omega
  | list _ hn => exact hn

theorem sub_list {st : Nat → Stt} {n c l h sz : Nat} {cs : List DV} {a : Option Addr} {cc : Nat} (hd : DRel st w (.list n cs) (.slice a n c)) (hlh : l ≤ h) (hcc : h - l ≤ cc) (hlen : h * sz ≤ cs.length) (hsz : 0 < sz)
    (a' : Option Addr) (ha : l < h → a' = a.map (·.add (l * sz))) : DRel st w (.list (h - l) ((cs.drop (l * sz)).take ((h - l) * sz))) (.slice a' (h - l) cc) := by
  rcases Nat.eq_or_lt_of_le hlh with rfl | hlt
  · simp only [Nat.sub_self, Nat.zero_mul, List.take_zero]; exact .nil
  · have ha' := ha hlt
    have hmul : l * sz + (h - l) * sz = h * sz := by rw [← Nat.add_mul]; congr 1; omega
    have hpos : 0 < (h - l) * sz := Nat.mul_pos (by omega) hsz
    have hlen2 : ((cs.drop (l * sz)).take ((h - l) * sz)).length = (h - l) * sz := by simp; omega
    cases hd with
    | nil => simp at hlen; have : 0 < h * sz := Nat.mul_pos (by omega) hsz; omega
    | list xs hn hg hl hne hc hx =>
      rename_i g off lim own
      subst ha'
      simp only [Option.map_some, add_at]
      refine .list (fun j => xs (l * sz + j)) hcc hg (by rw [hlen2]; omega) (fun e => by rw [e] at hlen2; simp at hlen2; omega) (fun j x hj => ?_) (fun j x hj => ?_)
      · rw [List.getElem?_take] at hj
        split at hj
        · rw [List.getElem?_drop] at hj
          rw [Nat.add_assoc]; exact hc _ x hj
        · cases hj
      · rw [List.getElem?_take] at hj
        split at hj
        · rw [List.getElem?_drop] at hj
          exact hx _ x hj
        · cases hj

theorem ok_slice {t : TypeId} {a x : AV} {va : Value} {lo hi mx : Option AV} {vl vh vm : Option Value} (ha : VRel G w a va) (hl : ORel G w lo vl) (hh : ORel G w hi vh) (hm : ORel G w mx vm)
    (h : aSlice X.P t a lo hi mx = some x) : Ok0 X G w (Instr.sliceAt t va vl vh vm) x := by
  unfold aSlice at h
  split at h
  · rename_i hu
    cases ha
    split at h
    · cases h
    · rename_i hmx
      cases mx with
      | some _ => simp at hmx
      | none =>
        cases vm with
        | some _ => exact hm.elim
        | none =>
          simp only [Option.map_eq_some_iff] at h
          obtain ⟨⟨l, h', m⟩, hb, rfl⟩ := h
          obtain ⟨hr, _⟩ := bounds_run (X := X) false _ hl hh (show ORel G w none none from trivial) hb (Nat.le_refl _) (Nat.le_refl _)
          refine ⟨_, ?_, .v rfl⟩
          simp [Instr.sliceAt, Instr.slice, run_underlying' hu, hr]
  · rename_i hu
    split at h
    · cases h
    · rename_i hsz
      have hsz : 0 < X.P.cellsOf _ := Nat.pos_of_ne_zero hsz
      simp only [Option.bind_eq_some_iff] at h
      obtain ⟨⟨l, h', m⟩, hb, h⟩ := h
      simp only at h
      split at h
      · cases h
      · rename_i hlen
        injection h with h
        subst h
        cases ha with
        | list hd ht =>
          rename_i e tag n cs _
          have hsl : ∃ ad c, va = .slice ad n c := by cases hd <;> exact ⟨_, _, rfl⟩
          obtain ⟨ad, c, rfl⟩ := hsl
          obtain ⟨hr, b1, b2, b3, b4, b5⟩ := bounds_run (X := X) true c hl hh hm hb hd.n_le (Nat.le_refl _)
          obtain ⟨M, hM⟩ : ∃ M, M = if mx.isSome = true then m else c := ⟨_, rfl⟩
          rw [← hM] at hr
          have hcn := hd.n_le
          have hMm : m ≤ M := by rw [hM]; split <;> omega
          refine ⟨.slice (if M = l then ad else ad.map (·.add (l * X.P.cellsOf e))) (h' - l) (M - l), ?_, ?_⟩
          · simp only [Instr.sliceAt, Instr.slice, Sem.run_bind, run_underlying' hu, Result.andThen_ok, hr, run_sizeOf' hsz, Sem.run_pure]
          · refine .list (sub_list hd b1 (by omega) (Nat.le_of_not_lt hlen) hsz _ (fun hlt => by rw [if_neg (by omega)])) ?_
            · by_cases hf : mx.isSome = true ∧ h' = m
              · rw [if_pos hf]
                rw [if_pos hf.1] at hM
                rw [hM, hf.2]
                exact ⟨_, rfl⟩
              · rw [if_neg hf]
                cases tag with
                | none => trivial
                | own _ _ => trivial
                | full =>
                  by_cases hn' : h' = n
                  · rw [if_pos hn']
                    subst hn'
                    obtain ⟨a', he⟩ := ht
                    injection he with he1 he2 he3
                    subst he3
                    cases hmx : mx with
                    | some z => exact absurd ⟨by simp [hmx], by omega⟩ hf
                    | none =>
                      rw [hmx] at hM
                      simp only [Option.isSome_none, Bool.false_eq_true, if_false] at hM
                      rw [hM]; exact ⟨_, rfl⟩
                  · rw [if_neg hn']; trivial
  · rename_i hu
    split at h
    · cases h
    · rename_i hsz
      have hsz : 0 < X.P.cellsOf _ := Nat.pos_of_ne_zero hsz
      simp only [Option.map_eq_some_iff] at h
      obtain ⟨⟨l, h', m⟩, hb, rfl⟩ := h
      cases ha with
      | msl hbl hn =>
        obtain ⟨hr, b1, b2, b3⟩ := bounds_run_eq (X := X) true hl hh hm hb hn
        rename_i e d k off n cap _ g
        refine ⟨.slice (some ⟨g, (if m = l then off else off + l * X.P.cellsOf e), none⟩) (h' - l) (m - l), ?_, .msl hbl (show h' - l ≤ m - l by omega)⟩
        simp only [Instr.sliceAt, Instr.slice, Sem.run_bind, run_underlying' hu, Result.andThen_ok, hr, run_sizeOf' hsz, Sem.run_pure]
        by_cases hml : m = l <;> simp [hml, add_at]
  · rename_i hu
    split at h
    · cases h
    · rename_i hsz
      have hsz : 0 < X.P.cellsOf _ := Nat.pos_of_ne_zero hsz
      simp only [Option.map_eq_some_iff] at h
      obtain ⟨⟨l, h', m⟩, hb, rfl⟩ := h
      cases ha with
      | ptr hbl =>
        obtain ⟨hr, b1, b2, b3⟩ := bounds_run_eq (X := X) false hl hh hm hb (Nat.le_refl _)
        rename_i n e d k off _ g
        refine ⟨.slice (some ⟨g, (if m = l then off else off + l * X.P.cellsOf e), none⟩) (h' - l) (m - l), ?_, .msl hbl (show h' - l ≤ m - l by omega)⟩
        simp only [Instr.sliceAt, Sem.run_bind, run_underlying' hu, Result.andThen_ok, Instr.sureAddr, hr, run_sizeOf' hsz, Sem.run_pure]
        by_cases hml : m = l <;> simp [hml, add_at]
  · cases h

theorem ok_indexAddr {t : TypeId} {a i x : AV} {va vi : Value} (ha : VRel G w a va) (hi : VRel G w i vi) (h : aIndexAddr X.P t a i = some x) : Ok0 X G w (Instr.indexAt t va vi) x := by
  unfold aIndexAddr at h
  split at h
  · rename_i hu
    cases hi
    cases ha with
    | list hd ht =>
      split at h
      · rename_i hc
        obtain ⟨c1, c2, c3, c4⟩ := hc
        injection h with h
        subst h
        cases hd with
        | nil => simp at c4; omega
        | list xs hn hg hl hne hcc hx =>
          refine ⟨_, ?_, .lptr hne (.list xs hn hg hl hne hcc hx)⟩
          simp only [Instr.indexAt, asIntOf, Sem.run_bind, Sem.run_pure, Result.andThen_ok, run_underlying' hu, run_sizeOf' c3]
          simp [c1, c2, run_sizeOf' c3, add_at]
      · cases h
  · rename_i hu
    cases hi
    cases ha with
    | msl hb hn =>
      split at h
      · rename_i hc
        obtain ⟨c1, c2, c3⟩ := hc
        injection h with h
        subst h
        refine ⟨_, ?_, .ptr hb⟩
        simp only [Instr.indexAt, asIntOf, Sem.run_bind, Sem.run_pure, Result.andThen_ok, run_underlying' hu, run_sizeOf' c3]
        simp [c1, c2, run_sizeOf' c3, add_at]
      · cases h
  · rename_i hu
    cases hi
    cases ha with
    | ptr hb =>
      split at h
      · rename_i hc
        obtain ⟨c1, c2, c3⟩ := hc
        injection h with h
        subst h
        refine ⟨_, ?_, .ptr hb⟩
        simp only [Instr.indexAt, asIntOf, Sem.run_bind, Sem.run_pure, Result.andThen_ok, run_underlying' hu, run_sizeOf' c3, Instr.sureAddr]
        simp [c1, c2, run_sizeOf' c3, add_at]
      · cases h
  · rename_i hu
    cases hi
    cases ha with
    | lptr hne hd =>
      split at h
      · rename_i hc
        obtain ⟨c1, c2, c3⟩ := hc
        injection h with h
        subst h
        refine ⟨_, ?_, .lptr hne hd⟩
        simp only [Instr.indexAt, asIntOf, Sem.run_bind, Sem.run_pure, Result.andThen_ok, run_underlying' hu, run_sizeOf' c3, Instr.sureAddr]
        simp [c1, c2, run_sizeOf' c3, add_at, Nat.add_assoc]
      · cases h
  · cases h

theorem ok_fieldAddr {t : TypeId} {f : Nat} {a x : AV} {va : Value} (ha : VRel G w a va) (h : aFieldAddr X.P t a f = some x) : Ok0 X G w (Instr.fieldAt t va f) x := by
  unfold aFieldAddr at h
  split at h
  · rename_i hu
    cases ha with
    | ptr hb =>
      split at h
      · rename_i fd hf
        split at h
        · cases h
        · rename_i hz
          injection h with h
          subst h
          refine ⟨_, ?_, .ptr hb⟩
          simp only [Instr.fieldAt, Sem.run_bind, run_underlying' hu, Result.andThen_ok, hf, Instr.sureAddr, Sem.run_pure, fieldPlace, run_sizeOf' (Nat.pos_of_ne_zero hz)]
          rw [if_neg hz]
          simp [add_at]
      · cases h
  · rename_i hu
    cases ha with
    | lptr hne hd =>
      split at h
      · rename_i fd hf
        split at h
        · cases h
        · rename_i hz
          injection h with h
          subst h
          refine ⟨_, ?_, .lptr hne hd⟩
          simp only [Instr.fieldAt, Sem.run_bind, run_underlying' hu, Result.andThen_ok, hf, Instr.sureAddr, Sem.run_pure, fieldPlace, run_sizeOf' (Nat.pos_of_ne_zero hz)]
          rw [if_neg hz]
          simp [add_at, Nat.add_assoc]
      · cases h
  · cases h

theorem ok_minmax {b : Builtin} {xs : List AV} {x : AV} {vs : Array Value} {ts : Array TypeId} {ty : TypeId} (hs : vs.size = xs.length) (hx : ∀ j x, xs[j]? = some x → VRel G w x (vs.getD j undef)) (h : minmax X.P b xs = some x) :
    (b = .min → Ok0 X G w (Builtin.min_ ts ty vs) x) ∧ (b = .max → Ok0 X G w (Builtin.max_ ts ty vs) x) := by
  unfold minmax at h
  split at h
  · rename_i l hl
    have hvs := vals_rel hl hs hx
    split at h
    · simp only [Option.map_eq_some_iff] at h
      obtain ⟨r, hr, rfl⟩ := h
      exact ⟨fun _ => ⟨r, by rw [hvs]; exact pureRun_run hr w, ofVal_rel G w r⟩, fun e => by cases e⟩
    · simp only [Option.map_eq_some_iff] at h
      obtain ⟨r, hr, rfl⟩ := h
      exact ⟨fun e => (by cases e), fun _ => ⟨r, by rw [hvs]; exact pureRun_run hr w, ofVal_rel G w r⟩⟩
    · cases h
  · cases h

/-! ### Loads -/
theorem load_row {g off n : Nat} {xs : List AV} (hx : ∀ j x, xs[j]? = some x → ∃ y, w.cell? ⟨g, off + j, none⟩ = some y ∧ y.oneCell' = true ∧ VRel G w x y) (hn : xs.length = n) :
    ∃ cs : Array Value, (loadCells ⟨g, off, none⟩ n).run X.P w = .ok cs w ∧ VRel G w (.agg xs) (.agg cs) := by
  have hex : ∀ j, j < n → ∃ y, w.cell? ⟨g, off + j, none⟩ = some y ∧ y.oneCell' = true ∧ ∀ x, xs[j]? = some x → VRel G w x y := fun j hj => by
    obtain ⟨y, h1, ho, h2⟩ := hx j (xs[j]'(by omega)) (by simp)
    exact ⟨y, h1, ho, fun x hx' => by rw [List.getElem?_eq_getElem (by omega)] at hx'; injection hx' with hx'; subst hx'; exact h2⟩
  let f : Nat → Value := fun j => (w.cell? ⟨g, off + j, none⟩).getD undef
  refine ⟨((List.range n).map f).toArray, run_loadCells w _ n f (fun j hj => ?_), .agg (fun x hx' => ?_) (by simp [hn]) (fun j x hj => ?_)⟩
  · obtain ⟨y, h1, _⟩ := hex j hj
    rw [add_at, h1]; simp [f, h1]
  · simp at hx'
    obtain ⟨j, hj, rfl⟩ := hx'
    obtain ⟨y, h1, ho, _⟩ := hex j hj
    simp [f, h1, ho]
  · have hj' : j < n := by rw [← hn]; exact (List.getElem?_eq_some_iff.1 hj).1
    obtain ⟨y, h1, _, h2⟩ := hex j hj'
    have : ((List.range n).map f).toArray.getD j undef = y := by simp [Array.getD_eq_getD_getElem?, hj', f, h1]
    rw [this]; exact h2 x hj

theorem scalar_one {y : Value} (h : scalar y = true) : y.oneCell' = true := by
  cases y <;> first | rfl | (simp [scalar] at h)
theorem DRel.one {d : DV} {y : Value} (h : DRel G.st w d y) : y.oneCell' = true := by
  cases h with
  | v h => exact scalar_one h
  | nil => rfl
  | list => rfl
theorem DRel.av {d : DV} {y : Value} (h : DRel G.st w d y) : VRel G w d.av y := by
  cases d with
  | v x => cases h with | v h => exact .v h
  | list n cs => exact .list h trivial

theorem row_cell {cells : List DV} {g o n c : Nat} (h : DRel G.st w (.list n cells) (.slice (some ⟨g, o, none⟩) n c)) {j : Nat} {x : DV} (hj : cells[j]? = some x) :
    ∃ y, w.cell? ⟨g, o + j, none⟩ = some y ∧ DRel G.st w x y := by
  cases h with
  | nil => simp at hj
  | list xs hn hg hl hne hc hx => exact ⟨xs j, hc j x hj, hx j x hj⟩

theorem Rel.cell {s : St} (hR : Rel X G s w) {d k g : Nat} (hb : G.bl d k = some g) {b : Blk} (hg : getBlk s d k = some b) {j : Nat} {x : AV} (hj : b.cells[j]? = some x) :
    ∃ y, w.cell? ⟨g, j, none⟩ = some y ∧ y.oneCell' = true ∧ VRel G w x y := by
  obtain ⟨b', cs, h1, h2, h3, ho, h4⟩ := hR.blk d k g hb
  rw [hg] at h1
  injection h1 with h1
  subst h1
  have hlt := (List.getElem?_eq_some_iff.1 hj).1
  exact ⟨cs.getD j undef, by rw [cell_of h2, some_getD (by omega)], ho _ (by rw [Array.getD_eq_getD_getElem?, Array.getElem?_eq_getElem (show j < cs.size by omega)]; simp), h4 j x hj⟩

theorem ok_load {s : St} (hR : Rel X G s w) {t : TypeId} {a x : AV} {va : Value} (ha : VRel G w a va) (h : aLoad X.P t a s = some x) : Ok0 X G w (Instr.loadAt t va) x := by
  unfold aLoad at h
  split at h
  · rename_i cs off p hp
    unfold tyOf at hp
    split at hp
    · rename_i d i hd hi
      injection hp with hp
      subst hp
      cases ha with
      | lptr hne hrow =>
        rename_i g o n c
        by_cases hb : aggD d = true
        · simp only [hb, if_true] at h
          split at h
          · rename_i hlen
            injection h with h
            subst h
            obtain ⟨vs, hrun, hv⟩ := load_row (X := X) (G := G) (w := w) (g := g) (off := o + off) (n := i.size) (xs := ((cs.drop off).take i.size).map DV.av) (fun j x hj => by
              rw [List.getElem?_map] at hj
              cases hj' : ((cs.drop off).take i.size)[j]? with
              | none => rw [hj'] at hj; simp at hj
              | some z =>
                rw [hj'] at hj
                simp at hj
                subst hj
                rw [List.getElem?_take] at hj'
                split at hj'
                · rw [List.getElem?_drop] at hj'
                  obtain ⟨y, h1, h2⟩ := row_cell hrow hj'
                  exact ⟨y, by rw [Nat.add_assoc]; exact h1, h2.one, h2.av⟩
                · cases hj') (by simp; omega)
            refine ⟨.agg vs, ?_, hv⟩
            simp [Instr.loadAt, Instr.sureAddr, loadVar, run_isAgg' hd, hb, sizeOf, run_typeInfo' hi, hrun]
          · cases h
        · simp only [hb] at h
          simp only [Bool.false_eq_true, if_false, Option.map_eq_some_iff] at h
          obtain ⟨z, hz, rfl⟩ := h
          obtain ⟨y, h1, h2⟩ := row_cell hrow hz
          refine ⟨y, ?_, h2.av⟩
          simp only [Instr.loadAt, Instr.sureAddr, loadVar, Sem.run_bind, Sem.run_pure, Result.andThen_ok, run_isAgg' hd, hb]
          simp [h1]
    · cases hp
  · rename_i dd k off p hp
    unfold tyOf at hp
    split at hp
    · rename_i d i hd hi
      injection hp with hp
      subst hp
      cases ha with
      | ptr hbl =>
        rename_i g
        split at h
        · rename_i b hg
          by_cases hb : aggD d = true
          · simp only [hb, if_true] at h
            split at h
            · rename_i hlen
              injection h with h
              subst h
              obtain ⟨vs, hrun, hv⟩ := load_row (X := X) (G := G) (w := w) (g := g) (off := off) (n := i.size) (xs := (b.cells.drop off).take i.size) (fun j x hj => by
                rw [List.getElem?_take] at hj
                split at hj
                · rw [List.getElem?_drop] at hj
                  exact hR.cell hbl hg hj
                · cases hj) (by simp; omega)
              refine ⟨.agg vs, ?_, hv⟩
              simp [Instr.loadAt, Instr.sureAddr, loadVar, run_isAgg' hd, hb, sizeOf, run_typeInfo' hi, hrun]
            · cases h
          · simp only [hb] at h
            simp only [Bool.false_eq_true, if_false] at h
            obtain ⟨y, h1, _, h2⟩ := hR.cell hbl hg h
            refine ⟨y, ?_, h2⟩
            simp only [Instr.loadAt, Instr.sureAddr, loadVar, Sem.run_bind, Sem.run_pure, Result.andThen_ok, run_isAgg' hd, hb]
            simp [h1]
        · cases h
    · cases hp
  · cases h
end
end Go.Proofs.YtnfdepafmmibaaaDoor

/-! New blocks: what the machine says stays true when Go lays a block. -/
set_option linter.unusedVariables false
set_option linter.unusedSimpArgs false
namespace Go.Proofs.YtnfdepafmmibaaaDoor
open Go

section
variable {X : Cx} {G G' : Gh} {s : St} {w w' : World}

theorem Rel.lt (hR : Rel X G s w) {g : Nat} (h : G.st g ≠ .free) : g < w.heap.size := by
  rcases Nat.lt_or_ge g w.heap.size with h' | h'
  · exact h'
  · exact absurd (hR.free g h') h
theorem Rel.wr_lt (hR : Rel X G s w) {d k g : Nat} (h : G.bl d k = some g) : g < w.heap.size := hR.lt (by rw [(hR.st d k g).1 h]; simp)

theorem Own.frame {d k m l : Nat} {u : Value} (h : Own G w d k m l u) (hown : ∀ g l o, G.st g = .imm l (some o) → G'.st g = .imm l (some o) ∧ w'.heap[g]? = w.heap[g]?) : Own G' w' d k m l u := by
  rcases h with h | ⟨g, c, sz, ty, cs, h1, h2, h3, h4, h5, h6, h7⟩
  · exact .inl h
  · obtain ⟨a, b⟩ := hown g l _ h4
    exact .inr ⟨g, c, sz, ty, cs, h1, h2, h3, a, by rw [b]; exact h5, h6, h7⟩

theorem Own.frame' {d k m l : Nat} {u : Value} (h : Own G w d k m l u) (hown : ∀ g l, G.st g = .imm l (some (d, k)) → G'.st g = .imm l (some (d, k)) ∧ w'.heap[g]? = w.heap[g]?) : Own G' w' d k m l u := by
  rcases h with h | ⟨g, c, sz, ty, cs, h1, h2, h3, h4, h5, h6, h7⟩
  · exact .inl h
  · obtain ⟨a, b⟩ := hown g l h4
    exact .inr ⟨g, c, sz, ty, cs, h1, h2, h3, a, by rw [b]; exact h5, h6, h7⟩

theorem Rel.frame (hR : Rel X G s w) (he : Ext G w G' w') (hst : ∀ d k g, G'.bl d k = some g ↔ G'.st g = .wr d k) (hbl : G'.bl = G.bl) (hcur : G'.cur = G.cur)
    (hmut : ∀ d k g, G.bl d k = some g → w'.heap[g]? = w.heap[g]?)
    (hown : ∀ g l o, G.st g = .imm l (some o) → G'.st g = .imm l (some o) ∧ w'.heap[g]? = w.heap[g]?)
    (hfree : ∀ g, w'.heap.size ≤ g → G'.st g = .free) (hno : G'.no = G.no) : Rel X G' s w' where
  st := hst
  blk d k g h := by
    rw [hbl] at h
    obtain ⟨b, cs, h1, h2, h3, h4, h5⟩ := hR.blk d k g h
    exact ⟨b, cs, h1, by rw [hmut d k g h]; exact h2, h3, h4, fun j x hj => (h5 j x hj).ext he⟩
  fit := hR.fit
  tok d k m l u h := by
    rw [hcur] at h
    obtain ⟨h1, h2⟩ := hR.tok d k m l u h
    exact ⟨h1, h2.frame hown⟩
  glob g := (hR.glob g).ext he
  free := hfree
  no d k h := by rw [hno] at h; rw [hbl]; exact hR.no d k h

/-- A block that will not be written. -/
def Gh.imm (G : Gh) (g lim : Nat) : Gh := { G with st := fun i => if i = g then .imm lim none else G.st i }

theorem heap_old (w : World) (o : Obj) {g : Nat} (h : g < w.heap.size) : (w.alloc o).heap[g]? = w.heap[g]? := by
  show (w.heap.push o)[g]? = _
  rw [Array.getElem?_push, if_neg (by omega)]
theorem heap_new (w : World) (o : Obj) : (w.alloc o).heap[w.heap.size]? = some o := by
  show (w.heap.push o)[w.heap.size]? = _
  rw [Array.getElem?_push, if_pos rfl]

theorem ext_imm (hR : Rel X G s w) (o : Obj) (lim : Nat) : Ext G w (G.imm w.heap.size lim) (w.alloc o) where
  os := rfl
  tape := rfl
  output := rfl
  size := by simp
  free g hg hf := ⟨heap_old w o hg, by simp [Gh.imm, hf]; omega⟩
  bl _ _ _ h := h
  imm g l own hg := by
    have hlt : g < w.heap.size := hR.lt (by rw [hg]; simp)
    refine ⟨l, own, by simp only [Gh.imm]; rw [if_neg (by omega)]; exact hg, Nat.le_refl _, fun j _ => World.cell?_of_block (heap_old w o hlt), fun ho => ⟨heap_old w o hlt, ho⟩⟩
  cur d k m l u h := ⟨m, l, u, h, Nat.le_refl _, fun _ => ⟨rfl, rfl⟩⟩
  no d k h := h

theorem rel_imm (hR : Rel X G s w) (o : Obj) (lim : Nat) : Rel X (G.imm w.heap.size lim) s (w.alloc o) := by
  have hN := hR.free w.heap.size (Nat.le_refl _)
  refine hR.frame (ext_imm hR o lim) (fun d k g => ?_) rfl rfl (fun d k g h => heap_old w o (hR.wr_lt h)) (fun g l o' h => ?_) (fun g hg => ?_) rfl
  · simp only [Gh.imm]
    by_cases hg : g = w.heap.size
    · subst hg
      rw [if_pos rfl, hR.st d k, hN]
      simp
    · rw [if_neg hg]; exact hR.st d k g
  · have hlt : g < w.heap.size := hR.lt (by rw [h]; simp)
    exact ⟨by simp only [Gh.imm]; rw [if_neg (by omega)]; exact h, heap_old w o hlt⟩
  · simp at hg
    simp only [Gh.imm]; rw [if_neg (by omega)]; exact hR.free g (by omega)

theorem ext_drew (G : Gh) (w : World) : Ext G w G w.drew :=
  ⟨rfl, rfl, rfl, Nat.le_refl _, fun _ _ h => ⟨rfl, h⟩, fun _ _ _ h => h, fun g l own h => ⟨l, own, h, Nat.le_refl _, fun _ _ => rfl, fun ho => ⟨rfl, ho⟩⟩,
    fun d k m l u h => ⟨m, l, u, h, Nat.le_refl _, fun _ => ⟨rfl, rfl⟩⟩, fun _ _ h => h⟩
theorem rel_drew (hR : Rel X G s w) : Rel X G s w.drew :=
  hR.frame (ext_drew G w) hR.st rfl rfl (fun _ _ _ _ => rfl) (fun _ _ _ h => ⟨h, rfl⟩) hR.free rfl

/-- The data of a new row. -/
theorem new_list {G' : Gh} {w' : World} {g lim : Nat} {cs : Array Value} {ty : TypeId} {fz : Nat × Nat} {cells : List DV} {n c : Nat} (hg : w'.heap[g]? = some (.cells cs ty fz)) (hs : G'.st g = .imm lim none)
    (hl : cells.length ≤ lim) (hlc : cells.length ≤ cs.size) (hn : n ≤ c) (h0 : cells = [] → n = 0) (hx : ∀ j x, cells[j]? = some x → DRel G'.st w' x (cs.getD j undef)) :
    DRel G'.st w' (.list n cells) (.slice (some ⟨g, 0, none⟩) n c) := by
  cases hc : cells with
  | nil => rw [h0 hc]; exact .nil
  | cons a r =>
    rw [← hc]
    refine .list (fun j => cs.getD j undef) hn hs (by omega) (by rw [hc]; simp) (fun j x hj => ?_) hx
    have := (List.getElem?_eq_some_iff.1 hj).1
    rw [Nat.zero_add, cell_of hg, some_getD (by omega)]

/-! ### Literals -/
theorem bcells_get (l : List UInt8) (j : Nat) {x : DV} (h : (bcells l)[j]? = some x) : ∃ b, l[j]? = some b ∧ x = .v (.int .u8 b.toNat) := by
  unfold bcells at h
  rw [List.getElem?_map] at h
  cases hj : l[j]? with
  | none => rw [hj] at h; simp at h
  | some b => rw [hj] at h; simp at h; exact ⟨b, rfl, h.symm⟩

theorem dvs_get : ∀ {xs : List AV} {ys : List DV}, dvs xs = some ys → ys.length = xs.length ∧ ∀ (j : Nat) (y : DV), ys[j]? = some y → ∃ x : AV, xs[j]? = some x ∧ x.dv = some y
  | [], ys, h => by simp [dvs] at h; subst h; exact ⟨rfl, fun j y hj => by simp at hj⟩
  | x :: r, ys, h => by
    unfold dvs at h
    split at h
    · rename_i y hy
      simp only [Option.map_eq_some_iff] at h
      obtain ⟨l, h1, rfl⟩ := h
      obtain ⟨h2, h3⟩ := dvs_get h1
      refine ⟨by simp [h2], fun j z hj => ?_⟩
      cases j with
      | zero => simp at hj; subst hj; exact ⟨x, rfl, hy⟩
      | succ j => simpa using h3 j z (by simpa using hj)
    · cases h
theorem dv_rel {x : AV} {d : DV} {y : Value} (h : VRel G w x y) (hd : x.dv = some d) : DRel G.st w d y := by
  cases x with
  | v z => simp [AV.dv] at hd; subst hd; cases h with | v h => exact .v h
  | list tag n cs => simp [AV.dv] at hd; subst hd; cases h with | list h _ => exact h
  | _ => simp [AV.dv] at hd

theorem bytesOf_ints : ∀ {cs : List DV} {l : List UInt8}, bytesOf cs = some l → ∃ ns : List Int, cs = ns.map (fun n => DV.v (.int .u8 n)) ∧ l = ns.map fun n => UInt8.ofNat n.toNat
  | [], l, h => ⟨[], rfl, by simp [bytesOf] at h; exact h⟩
  | .v (.int .u8 n) :: r, l, h => by
    simp only [bytesOf, Option.map_eq_some_iff] at h
    obtain ⟨l', h1, rfl⟩ := h
    obtain ⟨ns, h2, h3⟩ := bytesOf_ints h1
    exact ⟨n :: ns, by simp [h2], by simp [h3]⟩
  | .list _ _ :: _, l, h => by simp [bytesOf] at h
  | .v (.bool _) :: _, l, h => by simp [bytesOf] at h
  | .v (.int .i8 _) :: _, l, h => by simp [bytesOf] at h
  | .v (.int .i16 _) :: _, l, h => by simp [bytesOf] at h
  | .v (.int .i32 _) :: _, l, h => by simp [bytesOf] at h
  | .v (.int .i64 _) :: _, l, h => by simp [bytesOf] at h
  | .v (.int .u16 _) :: _, l, h => by simp [bytesOf] at h
  | .v (.int .u32 _) :: _, l, h => by simp [bytesOf] at h
  | .v (.int .u64 _) :: _, l, h => by simp [bytesOf] at h
  | .v (.float _ _) :: _, l, h => by simp [bytesOf] at h
  | .v (.complex _ _ _) :: _, l, h => by simp [bytesOf] at h
  | .v (.string _) :: _, l, h => by simp [bytesOf] at h
  | .v (.pointer _) :: _, l, h => by simp [bytesOf] at h
  | .v (.slice _ _ _) :: _, l, h => by simp [bytesOf] at h
  | .v (.map _) :: _, l, h => by simp [bytesOf] at h
  | .v (.chan _) :: _, l, h => by simp [bytesOf] at h
  | .v (.func _ _ _) :: _, l, h => by simp [bytesOf] at h
  | .v .nilFunc :: _, l, h => by simp [bytesOf] at h
  | .v (.iface _ _) :: _, l, h => by simp [bytesOf] at h
  | .v .nilIface :: _, l, h => by simp [bytesOf] at h
  | .v (.agg _) :: _, l, h => by simp [bytesOf] at h
  | .v (.tuple _) :: _, l, h => by simp [bytesOf] at h

theorem foldl_bytes (ns : List Int) : ∀ acc : ByteArray, ns.foldl (fun r n => r.push (UInt8.ofNat n.toNat)) acc = ⟨acc.data ++ (ns.map fun n => UInt8.ofNat n.toNat).toArray⟩ := by
  induction ns with
  | nil => intro acc; simp
  | cons n ns ih => intro acc; simp only [List.foldl_cons, ih]; simp [ByteArray.push]

theorem isBytes_eq {P : Program} {t : TypeId} (h : isBytes P t = true) : ∃ e, P.underlying t = some (.slice e) ∧ P.underlying e = some (.int .u8) := by
  unfold isBytes at h
  split at h
  · rename_i e he
    split at h
    · rename_i h2; exact ⟨e, he, h2⟩
    · cases h
  · cases h
theorem isStr_eq {P : Program} {t : TypeId} (h : isStr P t = true) : P.underlying t = some .string := by
  unfold isStr at h
  split at h
  · assumption
  · cases h

theorem run_bytes {src dst : TypeId} (hb : isBytes X.P src = true) (hs : isStr X.P dst = true) {g off n c : Nat} {ns : List Int} (hn : ns.length = n) (hc : ∀ j x, ns[j]? = some x → w.cell? ⟨g, off + j, none⟩ = some (.int .u8 x)) :
    (convert src dst (.slice (some ⟨g, off, none⟩) n c)).run X.P w = .ok (.string ⟨(ns.map fun n => UInt8.ofNat n.toNat).toArray⟩) w := by
  obtain ⟨e, h1, h2⟩ := isBytes_eq hb
  have hl : (loadCells ⟨g, off, none⟩ n).run X.P w = .ok (ns.map (Value.int .u8)).toArray w := by
    have := run_loadCells_list (P := X.P) w ⟨g, off, none⟩ (ns.map (Value.int .u8)) (fun j v hj => by
      rw [List.getElem?_map] at hj
      cases hj' : ns[j]? with
      | none => rw [hj'] at hj; simp at hj
      | some x => rw [hj'] at hj; simp at hj; subst hj; rw [add_at]; exact hc j x hj')
    simpa [hn] using this
  rw [run_convert_bytes_string w src dst e _ n c h1 h2 (isStr_eq hs), run_bytesToString w _ n c ns hl, foldl_bytes]
  simp [ByteArray.empty, ByteArray.emptyWithCapacity]
  rfl

theorem ok_conv (hR : Rel X G s w) {src dst : TypeId} {a x : AV} {va : Value} (ha : VRel G w a va) (h : aConvS X.P src dst a s = some x) : Ok1 X G s s w (convert src dst va) x := by
  unfold aConvS at h
  split at h
  · rename_i d k off n cap
    cases ha with
    | msl hbl hn =>
      split at h
      · rename_i b hg
        split at h
        · rename_i hc
          simp only [Bool.and_eq_true, decide_eq_true_eq] at hc
          simp only [Option.bind_eq_some_iff, Option.map_eq_some_iff] at h
          obtain ⟨cs, h1, l, h2, rfl⟩ := h
          obtain ⟨ns, rfl, rfl⟩ := bytesOf_ints h2
          obtain ⟨h3, h4⟩ := dvs_get h1
          refine Ok0.one ⟨_, run_bytes hc.1.1 hc.1.2 (ns := ns) (by simp at h3; omega) (fun j x hj => ?_), .v rfl⟩ hR
          obtain ⟨z, hz, hd⟩ := h4 j (.v (.int .u8 x)) (by simp [hj])
          rw [List.getElem?_take] at hz
          split at hz
          · rw [List.getElem?_drop] at hz
            obtain ⟨y, hy, _, hv⟩ := hR.cell hbl hg hz
            have := dv_rel hv hd
            cases this
            exact hy
          · cases hz
        · cases h
      · cases h
  · rename_i hnm
    clear hnm
    unfold aConv at h
    split at h
    · split at h
      · rename_i hc
        simp only [Bool.and_eq_true, beq_iff_eq] at hc
        simp only [Option.map_eq_some_iff] at h
        obtain ⟨l, h2, rfl⟩ := h
        cases ha with
        | list hd _ =>
          refine Ok0.one ?_ hR
          cases hd with
          | nil =>
            simp [bytesOf] at h2
            subst h2
            rename_i ad c _
            cases ad with
            | none =>
              obtain ⟨e, h1, h2⟩ := isBytes_eq hc.1.1
              exact ⟨_, by rw [run_convert_bytes_string w src dst e _ _ _ h1 h2 (isStr_eq hc.1.2)]; rfl, .v rfl⟩
            | some ad =>
              obtain ⟨e, h1, h2⟩ := isBytes_eq hc.1.1
              refine ⟨_, ?_, .v rfl⟩
              rw [run_convert_bytes_string w src dst e _ _ _ h1 h2 (isStr_eq hc.1.2), run_bytesToString w ad 0 c [] (by simp [loadCells, loadCellsFrom])]
              rfl
          | list xs hn hg hl hne hcc hx =>
            obtain ⟨ns, rfl, rfl⟩ := bytesOf_ints h2
            refine ⟨_, run_bytes hc.1.1 hc.1.2 (ns := ns) (by simpa using hc.2.symm) (fun j x hj => ?_), .v rfl⟩
            have e1 := hcc j (.v (.int .u8 x)) (by simp [hj])
            have e2 := hx j (.v (.int .u8 x)) (by simp [hj])
            rw [e1]
            generalize xs j = y at e2
            cases e2
            rfl
      · cases h
    · cases ha
      split at h
      · rename_i hc
        simp only [Bool.and_eq_true] at hc
        injection h with h
        subst h
        rename_i b _
        obtain ⟨e, h1, h2⟩ := isBytes_eq hc.1
        have hrun := run_bytes_of_string (P := X.P) w src dst e b (isStr_eq hc.2) h1 h2
        have hcap := grownCap_ge w b.size 0 e
        have hRd := rel_drew hR
        refine ⟨_, _, G.imm w.heap.size b.size, hrun, rel_imm hRd _ _, (ext_drew G w).trans (ext_imm hRd _ _), .list ?_ trivial⟩
        refine new_list (lim := b.size) (heap_new w.drew _) (by simp [Gh.imm]) (by simp [bcells]) (by simp [bcells, bytesRow]) hcap (fun h0 => ?_) (fun j x hj => ?_)
        · have := congrArg List.length h0
          simpa [bcells] using this
        obtain ⟨u, hu, rfl⟩ := bcells_get _ j hj
        have hlt := (List.getElem?_eq_some_iff.1 hu).1
        have : (bytesRow b (grownCap w b.size 0 e)).getD j undef = .int .u8 u.toNat := by
          simp at hu
          simp [bytesRow, Array.getD_eq_getD_getElem?, Array.getElem?_append, hu]
          simp at hlt
          rw [if_pos hlt]; rfl
        rw [this]
        exact .v rfl
      · unfold aConvV at h
        simp only [Option.map_eq_some_iff] at h
        obtain ⟨r, hr, rfl⟩ := h
        exact Ok0.one ⟨r, pureRun_run hr w, ofVal_rel G w r⟩ hR
    · cases ha
      unfold aConvV at h
      simp only [Option.map_eq_some_iff] at h
      obtain ⟨r, hr, rfl⟩ := h
      exact Ok0.one ⟨r, pureRun_run hr w, ofVal_rel G w r⟩ hR
    · cases h
end
end Go.Proofs.YtnfdepafmmibaaaDoor

/-! Struct, array and slice literals do in Go what the machine says; all operations that give a value. -/
set_option linter.unusedVariables false
set_option linter.unusedSimpArgs false
namespace Go.Proofs.YtnfdepafmmibaaaDoor
open Go

structure CRel (G : Gh) (w : World) (xs : List AV) (cs : Array Value) : Prop where
  one : ∀ x ∈ cs, x.oneCell' = true
  size : cs.size = xs.length
  at_ : ∀ j x, xs[j]? = some x → VRel G w x (cs.getD j undef)

section
variable {X : Cx} {G G' : Gh} {s : St} {w w' : World}

theorem CRel.agg {xs : List AV} {cs : Array Value} (h : CRel G w xs cs) : VRel G w (.agg xs) (.agg cs) := .agg h.one h.size h.at_
theorem CRel.ext {xs : List AV} {cs : Array Value} (h : CRel G w xs cs) (he : Ext G w G' w') : CRel G' w' xs cs := ⟨h.one, h.size, fun j x hj => (h.at_ j x hj).ext he⟩

theorem parts_rel {x : AV} {v : Value} {ps : List AV} (h : VRel G w x v) (hp : x.parts = some ps) : CRel G w ps v.cells := by
  have one : ∀ (x : AV) (v : Value), VRel G w x v → v.oneCell' = true → v.cells = #[v] → CRel G w [x] v.cells := fun x v h h1 h2 => by
    rw [h2]
    exact ⟨fun y hy => by simp at hy; subst hy; exact h1, rfl, fun j y hj => by
      cases j with
      | zero => simp at hj; subst hj; simpa using h
      | succ j => simp at hj⟩
  cases h with
  | undef => simp [AV.parts] at hp
  | v hs =>
    simp [AV.parts] at hp; subst hp
    refine one _ _ (.v hs) (scalar_one hs) ?_
    cases v <;> first | rfl | (simp [scalar] at hs)
  | list hd ht =>
    simp [AV.parts] at hp; subst hp
    have hs : ∃ a n c, v = .slice a n c := by cases hd <;> exact ⟨_, _, _, rfl⟩
    obtain ⟨a, n, c, rfl⟩ := hs
    exact one _ _ (.list hd ht) rfl rfl
  | ptr hb => simp [AV.parts] at hp; subst hp; exact one _ _ (.ptr hb) rfl rfl
  | lptr hne hb => simp [AV.parts] at hp; subst hp; exact one _ _ (.lptr hne hb) rfl rfl
  | msl hb hn => simp [AV.parts] at hp; subst hp; exact one _ _ (.msl hb hn) rfl rfl
  | fn hs hx => simp [AV.parts] at hp; subst hp; exact one _ _ (.fn hs hx) rfl rfl
  | agg h1 hs hx => simp [AV.parts] at hp; subst hp; exact ⟨h1, hs, hx⟩
  | tuple hs hx => simp [AV.parts] at hp

theorem CRel.set {xs : List AV} {cs : Array Value} (h : CRel G w xs cs) {x : AV} {v : Value} (hx : VRel G w x v) (h1 : v.oneCell' = true) (i : Nat) : CRel G w (xs.set i x) (cs.setIfInBounds i v) where
  one y hy := by
    rcases Array.mem_or_eq_of_mem_setIfInBounds hy with h' | h'
    · exact h.one y h'
    · subst h'; exact h1
  size := by simp [h.size]
  at_ j y hj := by
    rw [List.getElem?_set] at hj
    rw [Array.getD_eq_getD_getElem?, Array.getElem?_setIfInBounds]
    by_cases hij : i = j
    · subst hij
      rw [if_pos rfl] at hj
      split at hj
      · injection hj with hj
        subst hj
        rename_i hlt
        simp [h.size, hlt, hx]
      · cases hj
    · rw [if_neg hij] at hj ⊢
      simpa [Array.getD_eq_getD_getElem?] using h.at_ j y hj

theorem setAt_length : ∀ (ps cs : List AV) (off : Nat), (setAt cs off ps).length = cs.length
  | [], _, _ => rfl
  | _ :: ps, cs, off => by simp [setAt, setAt_length ps]

theorem setAt_rel : ∀ (vl : List Value) (ps : List AV) (xs : List AV) (cs : Array Value) (off i : Nat), CRel G w xs cs → ps.length = vl.length → (∀ j x, ps[j]? = some x → VRel G w x (vl.getD j undef)) → (∀ x ∈ vl, x.oneCell' = true) →
    CRel G w (setAt xs (off + i) ps) ((vl.zipIdx i).foldl (fun cs p => cs.setIfInBounds (off + p.2) p.1) cs) := by
  intro vl
  induction vl with
  | nil => intro ps xs cs off i h hl _ _; have := List.eq_nil_of_length_eq_zero (l := ps) (by simpa using hl); subst this; simpa [setAt] using h
  | cons v vl ih =>
    intro ps xs cs off i h hl hx h1
    cases ps with
    | nil => simp at hl
    | cons p ps =>
      simp only [setAt, List.zipIdx_cons, List.foldl_cons]
      have h0 := hx 0 p rfl
      simp at h0
      exact ih ps _ _ off (i + 1) (h.set h0 (h1 v (by simp)) _) (by simpa using hl) (fun j x hj => by simpa using hx (j + 1) x (by simpa using hj)) (fun x hx' => h1 x (by simp [hx']))

theorem setAt_rel' {ps xs : List AV} {vs cs : Array Value} (h : CRel G w xs cs) (hp : CRel G w ps vs) (off : Nat) :
    CRel G w (setAt xs off ps) (vs.zipIdx.foldl (fun cs p => cs.setIfInBounds (off + p.2) p.1) cs) := by
  rw [← Array.foldl_toList, Array.toList_zipIdx]
  exact setAt_rel vs.toList ps xs cs off 0 h (by simp [hp.size]) (fun j x hj => by simpa [Array.getD_eq_getD_getElem?, List.getD_eq_getElem?_getD] using hp.at_ j x hj) (fun x hx => hp.one x (Array.mem_toList_iff.1 hx))

theorem fill_rel (place : Nat → Option (Nat × Nat)) : ∀ (ps : List (Nat × AV)) (vs : List (Nat × Value)) (xs : List AV) (cs : Array Value) (ys : List AV), CRel G w xs cs → vs.length = ps.length →
    (∀ (j : Nat) (p : Nat × AV), ps[j]? = some p → ∃ q : Nat × Value, vs[j]? = some q ∧ q.1 = p.1 ∧ VRel G w p.2 q.2) → aFill place xs ps = some ys → ∃ cs', Instr.fill place cs vs = some cs' ∧ CRel G w ys cs' := by
  intro ps
  induction ps with
  | nil =>
    intro vs xs cs ys h hl _ hf
    have := List.eq_nil_of_length_eq_zero (l := vs) (by simpa using hl)
    subst this
    simp [aFill] at hf
    subst hf
    exact ⟨cs, rfl, h⟩
  | cons p ps ih =>
    intro vs xs cs ys h hl hv hf
    cases vs with
    | nil => simp at hl
    | cons v vs =>
      obtain ⟨q, hq, hq1, hq2⟩ := hv 0 p rfl
      simp at hq
      subst hq
      obtain ⟨i, x⟩ := p
      obtain ⟨i', y⟩ := v
      simp only at hq1 hq2
      subst hq1
      simp only [aFill] at hf
      split at hf
      · cases hf
      · rename_i off size hp
        split at hf
        · rename_i pp hpp
          split at hf
          · rename_i hc
            have hpr := parts_rel hq2 hpp
            have hsz : y.cells.size = size := by rw [hpr.size]; exact hc.1
            obtain ⟨cs', h1, h2⟩ := ih vs _ _ ys (setAt_rel' h hpr off) (by simpa using hl) (fun j p hj => by simpa using hv (j + 1) p (by simpa using hj)) hf
            refine ⟨cs', ?_, h2⟩
            simp only [Instr.fill, hp]
            rw [if_neg (by simp [hsz, h.size]; omega)]
            exact h1
          · cases hf
        · cases hf

theorem zCells_rel {t : TypeId} {z : List AV} (h : zCells X.P t = some z) (G : Gh) (w : World) : ∃ v, (zeroValue t).run X.P w = .ok v w ∧ CRel G w z v.cells := by
  unfold zCells at h
  split at h
  · rename_i v hv
    split at h
    · rename_i h1
      injection h with h
      subst h
      unfold zeroOf at hv
      cases hi : X.P.info? t with
      | none => simp [hi] at hv
      | some i =>
        simp [hi] at hv
        refine ⟨v, by simp [zeroValue, run_typeInfo' hi, hv], fun x hx => List.all_eq_true.1 h1 x (Array.mem_toList_iff.2 hx), by simp, fun j x hj => by rw [getD_toList _ j hj]; exact ofCell_rel G w _⟩
    · cases h
  · cases h

theorem mapM_list {α β : Type} (f : α → Sem β) (g : α → β) : ∀ (l : List α), (∀ x ∈ l, (f x).run X.P w = .ok (g x) w) → (l.mapM f).run X.P w = .ok (l.map g) w
  | [], _ => rfl
  | x :: l, h => by
    rw [List.mapM_cons]
    simp only [Sem.run_bind, h x (by simp), Result.andThen_ok, mapM_list f g l (fun y hy => h y (by simp [hy])), Sem.run_pure, List.map_cons]
theorem mapM_array {α β : Type} (f : α → Sem β) (g : α → β) (a : Array α) (h : ∀ x ∈ a, (f x).run X.P w = .ok (g x) w) : (a.mapM f).run X.P w = .ok (a.map g) w := by
  rw [Array.mapM_eq_mapM_toList]
  simp only [Sem.run_map, mapM_list f g a.toList (fun x hx => h x (Array.mem_toList_iff.1 hx)), Result.andThen_ok]
  congr 1
  apply Array.ext'
  simp

theorem ok_build {t : TypeId} {ps : List (Nat × AV)} {vs : Array (Nat × Value)} {x : AV} (hl : vs.size = ps.length) (hv : ∀ (j : Nat) (p : Nat × AV), ps[j]? = some p → ∃ q : Nat × Value, vs[j]? = some q ∧ q.1 = p.1 ∧ VRel G w p.2 q.2)
    (h : aBuild X.P t ps = some x) : Ok0 X G w (Instr.build t vs) x := by
  unfold aBuild at h
  split at h
  · rename_i z fs hz hu
    obtain ⟨zv, hzr, hzc⟩ := zCells_rel (X := X) hz G w
    split at h
    · rename_i hall
      simp only [Option.map_eq_some_iff] at h
      obtain ⟨ys, hf, rfl⟩ := h
      obtain ⟨cs', h1, h2⟩ := fill_rel _ ps vs.toList z zv.cells ys hzc (by simp [hl]) (fun j p hj => by simpa using hv j p hj) hf
      refine ⟨.agg cs', ?_, h2.agg⟩
      have hm : (fs.mapM fun (f : Field) => do pure (f.offset, ← sizeOf f.type)).run X.P w = .ok (fs.map fun (f : Field) => (f.offset, X.P.cellsOf f.type)) w := by
        apply mapM_array
        intro f hf'
        have := List.all_eq_true.1 hall f (Array.mem_toList_iff.2 hf')
        cases hi : X.P.info? f.type with
        | none => simp [hi] at this
        | some i => simp [sizeOf, run_typeInfo' hi, Program.cellsOf, hi]
      simp only [Instr.build, Sem.run_bind, hzr, Result.andThen_ok, run_underlying' hu, hm]
      have he : (fun (i : Nat) => (fs.map fun (f : Field) => (f.offset, X.P.cellsOf f.type))[i]?) = fun (i : Nat) => (fs[i]?).map fun (f : Field) => (f.offset, X.P.cellsOf f.type) := by funext i; simp
      simp only [he, h1]
      rfl
    · cases h
  · rename_i z n e hz hu
    obtain ⟨zv, hzr, hzc⟩ := zCells_rel (X := X) hz G w
    split at h
    · cases h
    · rename_i hsz
      simp only [Option.map_eq_some_iff] at h
      obtain ⟨ys, hf, rfl⟩ := h
      obtain ⟨cs', h1, h2⟩ := fill_rel _ ps vs.toList z zv.cells ys hzc (by simp [hl]) (fun j p hj => by simpa using hv j p hj) hf
      refine ⟨.agg cs', ?_, h2.agg⟩
      simp only [Instr.build, Sem.run_bind, hzr, Result.andThen_ok, run_underlying' hu, run_sizeOf' (Nat.pos_of_ne_zero hsz), h1]
      rfl
  · cases h

theorem repl_length (z : List AV) : ∀ n, (repl z n).length = n * z.length
  | 0 => by simp [repl]
  | n + 1 => by simp [repl, repl_length z n, Nat.add_mul]; omega
theorem repl_get (z : List AV) (hz : 0 < z.length) : ∀ (n j : Nat) (x : AV), (repl z n)[j]? = some x → z[j % z.length]? = some x
  | 0, j, x, h => by simp [repl] at h
  | n + 1, j, x, h => by
    simp only [repl] at h
    rw [List.getElem?_append] at h
    split at h
    · rename_i hlt; rwa [Nat.mod_eq_of_lt hlt]
    · rename_i hge
      have := repl_get z hz n (j - z.length) x h
      rwa [← Nat.mod_eq_sub_mod (by omega)] at this

theorem repl_rel {z : List AV} {zc : Array Value} (h : CRel G w z zc) (hz : 0 < z.length) (n : Nat) : CRel G w (repl z n) ((Array.range (n * z.length)).map (zc[· % zc.size]!)) := by
  have hsz : 0 < zc.size := by rw [h.size]; exact hz
  have hm : ∀ j, zc[j % zc.size]! = zc.getD (j % zc.size) undef := fun j => by
    have := Nat.mod_lt j hsz
    simp [Array.getD_eq_getD_getElem?, this]
  refine ⟨fun x hx => ?_, by simp [repl_length], fun j x hj => ?_⟩
  · simp at hx
    obtain ⟨j, _, rfl⟩ := hx
    have := Nat.mod_lt j hsz
    rw [hm]
    exact h.one _ (by simp [Array.getD_eq_getD_getElem?, this])
  · have hlt := (List.getElem?_eq_some_iff.1 hj).1
    rw [repl_length] at hlt
    have hj' := repl_get z hz n j x hj
    have : ((Array.range (n * z.length)).map (zc[· % zc.size]!)).getD j undef = zc.getD (j % z.length) undef := by
      simp only [Array.getD_eq_getD_getElem?, Array.getElem?_map, Array.getElem?_range, hlt, if_true, Option.map_some, Option.getD_some]
      rw [hm, h.size, Array.getD_eq_getD_getElem?]
    rw [this]
    exact h.at_ _ x hj'

theorem ok_buildSlice (hR : Rel X G s w) {t : TypeId} {len : Nat} {ps : List (Nat × AV)} {vs : Array (Nat × Value)} {x : AV} (hl : vs.size = ps.length) (hv : ∀ (j : Nat) (p : Nat × AV), ps[j]? = some p → ∃ q : Nat × Value, vs[j]? = some q ∧ q.1 = p.1 ∧ VRel G w p.2 q.2)
    (h : aBuildSlice X.P t len ps = some x) : Ok1 X G s s w (Instr.buildSlice t len vs) x := by
  unfold aBuildSlice at h
  split at h
  · rename_i e hu
    split at h
    · rename_i z hz
      split at h
      · rename_i hc
        obtain ⟨c1, c2, c3⟩ := hc
        simp only [Option.map_eq_some_iff, Option.bind_eq_some_iff] at h
        obtain ⟨cs, ⟨ys, hf, hd⟩, rfl⟩ := h
        obtain ⟨zv, hzr, hzc⟩ := zCells_rel (X := X) hz G w
        have hz0 : 0 < z.length := by omega
        have hrow := repl_rel hzc hz0 len
        obtain ⟨cs', h1, h2⟩ := fill_rel _ ps vs.toList (repl z len) _ ys hrow (by simp [hl]) (fun j p hj => by simpa using hv j p hj) hf
        obtain ⟨d1, d2⟩ := dvs_get hd
        have hext := ext_imm hR (.cells cs' e) cs'.size
        refine ⟨.slice (some ⟨w.heap.size, 0, none⟩) len len, w.alloc (.cells cs' e), G.imm w.heap.size cs'.size, ?_, rel_imm hR _ _, hext, .list ?_ ⟨_, rfl⟩⟩
        · simp only [Instr.buildSlice, Sem.run_bind, run_underlying' hu, Result.andThen_ok, run_sizeOf' c2]
          rw [if_neg (by omega)]
          rw [Sem.run_ite]
          split
          · rename_i h0
            have : (Array.range (len * X.P.cellsOf e)).map (fun x => (#[] : Array Value)[x % (#[] : Array Value).size]!) = (Array.range (len * z.length)).map (zv.cells[· % zv.cells.size]!) := by
              rw [c3, h0]; simp
            simp only [Sem.run_bind, Sem.run_pure, Result.andThen_ok]
            rw [this, h1]
            rfl
          · simp only [Sem.run_bind, Sem.run_pure, Result.andThen_ok, hzr]
            rw [c3] at h1
            rw [h1]
            rfl
        · have hlen : ys.length = len * z.length := by
            have : ∀ (ps : List (Nat × AV)) (xs ys : List AV), aFill (fun i => some (i * X.P.cellsOf e, X.P.cellsOf e)) xs ps = some ys → ys.length = xs.length := by
              intro ps
              induction ps with
              | nil => intro xs ys h; simp [aFill] at h; rw [h]
              | cons p ps ih =>
                intro xs ys h
                obtain ⟨i, x⟩ := p
                simp only [aFill] at h
                split at h
                · split at h
                  · rw [ih _ _ h, setAt_length]
                  · cases h
                · cases h
            rw [this ps _ _ hf, repl_length]
          have hcl : cs.length = cs'.size := by rw [d1, h2.size]
          refine new_list (lim := cs'.size) (heap_new w _) (by simp [Gh.imm]) (by omega) (by omega) (Nat.le_refl _) (fun h0 => ?_) (fun j y hj => ?_)
          · have hzero : ys.length = 0 := by rw [← d1, h0]; rfl
            rw [hlen] at hzero
            rcases Nat.mul_eq_zero.1 hzero with h' | h'
            · exact h'
            · omega
          · obtain ⟨u, hu1, hu2⟩ := d2 j y hj
            exact dv_rel ((h2.at_ j u hu1).ext hext) hu2
      · cases h
    · cases h
  · cases h

theorem arr_evs {e : Env} {a : Act} (hR : Rel X G s w) (hE : EnvRel G w e a) (xs : Array Operand) :
    ARel G w (evs X e xs) (xs.map a.eval) := by
  refine ⟨by simp [evs], fun j x hj => ?_⟩
  simp only [evs, List.getElem?_map] at hj
  cases hx : xs.toList[j]? with
  | none => rw [hx] at hj; simp at hj
  | some o =>
    rw [hx] at hj
    simp at hj
    subst hj
    have : xs[j]? = some o := by simpa using hx
    rw [Array.getD_eq_getD_getElem?, Array.getElem?_map, this]
    exact eva_rel hR hE o
theorem parts_evs {e : Env} {a : Act} (hR : Rel X G s w) (hE : EnvRel G w e a) (ps : Array (Nat × Operand)) :
    (ps.map fun (i, x) => (i, a.eval x)).size = (ps.toList.map fun p => (p.1, eva X e p.2)).length ∧
      ∀ (j : Nat) (p : Nat × AV), (ps.toList.map fun p => (p.1, eva X e p.2))[j]? = some p → ∃ q : Nat × Value, (ps.map fun (i, x) => (i, a.eval x))[j]? = some q ∧ q.1 = p.1 ∧ VRel G w p.2 q.2 := by
  refine ⟨by simp, fun j p hj => ?_⟩
  rw [List.getElem?_map] at hj
  cases hx : ps.toList[j]? with
  | none => rw [hx] at hj; simp at hj
  | some o =>
    rw [hx] at hj
    simp at hj
    subst hj
    have : ps[j]? = some o := by simpa using hx
    exact ⟨(o.1, a.eval o.2), by simp [this], rfl, eva_rel hR hE o.2⟩
theorem opt_evs {e : Env} {a : Act} (hR : Rel X G s w) (hE : EnvRel G w e a) (x : Option Operand) : ORel G w (x.map (eva X e)) (x.map a.eval) := by
  cases x with
  | none => trivial
  | some o => exact eva_rel hR hE o

/-- An operation that ends in a value. -/
def OpOk (X : Cx) (G : Gh) (s s' : St) (w : World) (a : Act) (o : Oper) (x : AV) : Prop :=
  ∃ y w' G', (execOp a.eval o).run X.P w = .ok (.value y) w' ∧ Rel X G' s' w' ∧ Ext G w G' w' ∧ VRel G' w' x y
theorem Ok1.op {a : Act} {o : Oper} {sem : Sem Value} {x : AV} {s' : St} (h : Ok1 X G s s' w sem x) (he : execOp a.eval o = (do pure (.value (← sem)))) : OpOk X G s s' w a o x := by
  obtain ⟨y, w', G', h1, h2, h3, h4⟩ := h
  exact ⟨y, w', G', by rw [he]; simp [h1], h2, h3, h4⟩

theorem valOp_sound {e : Env} {a : Act} {o : Oper} {x : AV} (hR : Rel X G s w) (hE : EnvRel G w e a) (h : valOp X e s o.op = some (some x)) : OpOk X G s s w a o x := by
  have ev := fun z => eva_rel hR hE z
  obtain ⟨dst, op, ty, pos, after, guard⟩ := o
  simp only at h
  cases op with
  | move z =>
    simp only [valOp, Option.some.injEq] at h
    subst h
    exact ⟨a.eval z, w, G, rfl, hR, .refl G w, ev z⟩
  | pick c p q =>
    simp only [valOp, Option.some.injEq] at h
    obtain ⟨y, h1, h2⟩ := ok_pick (X := X) (ev c) (ev p) (ev q) h
    exact ⟨y, w, G, by
      have := h1
      simp only [execOp]
      simp only [Sem.run_bind] at this ⊢
      cases hb : (asBool (a.eval c)).run X.P w with
      | ok t w' =>
        rw [hb] at this
        simp only [Result.andThen_ok, Sem.run_pure, Result.ok.injEq] at this ⊢
        exact ⟨by rw [this.1], this.2⟩
      | halt t w' => rw [hb] at this; simp at this, hR, .refl G w, h2⟩
  | build t ps =>
    simp only [valOp, Option.some.injEq] at h
    obtain ⟨p1, p2⟩ := parts_evs (X := X) hR hE ps
    exact ((ok_build p1 p2 h).one hR).op rfl
  | buildSlice t n ps =>
    simp only [valOp, Option.some.injEq] at h
    obtain ⟨p1, p2⟩ := parts_evs (X := X) hR hE ps
    exact (ok_buildSlice hR p1 p2 h).op rfl
  | nilCheck z =>
    simp only [valOp, Option.some.injEq] at h
    obtain ⟨h1, h2⟩ := ok_nil (X := X) (ev z) h
    exact ⟨_, w, G, h2 _ a.eval z rfl rfl, hR, .refl G w, h1⟩
  | binOp op t p q u =>
    simp only [valOp, Option.some.injEq] at h
    unfold aBinO at h
    split at h
    · rename_i hq
      exact ((ok_nilcmp (X := X) (ox := p) (act := a) hq (ev p) h).one hR).op (by simp only [execOp])
    · exact ((ok_bin (X := X) (ox := p) (oy := q) (ev p) (ev q) h).one hR).op (by simp only [execOp])
  | unOp op t z =>
    simp only [valOp, Option.some.injEq] at h
    exact ((ok_un (ev z) h).one hR).op rfl
  | sliceToArrayPointer t z =>
    simp only [valOp, Option.some.injEq] at h
    exact ((ok_arr (ev z) h).one hR).op rfl
  | makeFunc fn first caps =>
    simp only [valOp, Option.some.injEq] at h
    unfold aFunc at h
    split at h
    · rename_i f heq
      injection h with h
      subst h
      have hf : first.map a.eval = #[] := by
        have : first.toList = [] := by simpa [evs] using heq
        have : first = #[] := by simpa using this
        rw [this]; simp
      obtain ⟨c1, c2⟩ := arr_evs (X := X) hR hE caps
      exact ⟨_, w, G, by simp only [execOp, Instr.makeFunc, hf]; rfl, hR, .refl G w, .fn c1 c2⟩
    · cases h
  | slice t z lo hi mx =>
    simp only [valOp, Option.some.injEq] at h
    exact ((ok_slice (ev z) (opt_evs hR hE lo) (opt_evs hR hE hi) (opt_evs hR hE mx) h).one hR).op rfl
  | fieldAddr t z f =>
    simp only [valOp, Option.some.injEq] at h
    exact ((ok_fieldAddr (ev z) h).one hR).op rfl
  | field t z f =>
    simp only [valOp, Option.some.injEq] at h
    exact ((ok_field (ev z) h).one hR).op rfl
  | indexAddr t z i =>
    simp only [valOp, Option.some.injEq] at h
    exact ((ok_indexAddr (ev z) (ev i) h).one hR).op rfl
  | index t z i =>
    simp only [valOp, Option.some.injEq] at h
    exact ((ok_index (ev z) (ev i) h).one hR).op rfl
  | extract z i =>
    simp only [valOp, Option.some.injEq] at h
    exact ((ok_extract (ev z) h).one hR).op rfl
  | load t z =>
    simp only [valOp, Option.some.injEq] at h
    exact ((ok_load hR (ev z) h).one hR).op rfl
  | convert src dst z =>
    simp only [valOp, Option.some.injEq] at h
    exact (ok_conv hR (ev z) h).op rfl
  | call c =>
    obtain ⟨callee, args, argTypes⟩ := c
    have hargs := arr_evs (X := X) hR hE args
    cases callee with
    | value f => simp [valOp] at h
    | invoke r m => simp [valOp] at h
    | builtin b =>
      have hex : ∀ b, execOp a.eval { dst, op := .call { callee := .builtin b, args, argTypes }, type := ty, pos, after, guard } =
          builtin b argTypes ty (args.map fun | .const _ => true | _ => false) (args.map a.eval) := fun b => rfl
      cases b with
      | len =>
        simp only [valOp, Option.some.injEq] at h
        split at h
        · rename_i t z ht hz
          refine ((ok_len (ty := ty) (args := args.map a.eval) (va := a.eval z) ht (by rw [Array.getElem?_map, hz]; rfl) (ev z) h).one hR).op ?_
          rw [hex]; rfl
        · cases h
      | min =>
        simp only [valOp, Option.some.injEq] at h
        refine (((ok_minmax (ts := argTypes) (ty := ty) hargs.size hargs.at_ h).1 rfl).one hR).op ?_
        rw [hex]; rfl
      | max =>
        simp only [valOp, Option.some.injEq] at h
        refine (((ok_minmax (ts := argTypes) (ty := ty) hargs.size hargs.at_ h).2 rfl).one hR).op ?_
        rw [hex]; rfl
      | _ => simp [valOp] at h
  | _ => simp [valOp] at h
end
end Go.Proofs.YtnfdepafmmibaaaDoor

/-! Blocks, stores and growing lists do in Go what the machine says. -/
set_option linter.unusedVariables false
set_option linter.unusedSimpArgs false
namespace Go.Proofs.YtnfdepafmmibaaaDoor
open Go

/-! ### The machine's own memory -/
theorem getFr_lt : ∀ {s : St} {d : Nat} {f : Frm}, getFr s d = some f → d < s.length
  | [], _, _, h => by simp [getFr] at h
  | g :: s, d, f, h => by
    simp only [getFr] at h
    split at h
    · rename_i e; simp [e]
    · have := getFr_lt h; simp; omega
theorem getFr_setFr : ∀ (s : St) (d : Nat) (f g : Frm) (d' : Nat), getFr s d = some f → getFr (setFr s d g) d' = if d' = d then some g else getFr s d'
  | [], _, _, _, _, h => by simp [getFr] at h
  | x :: s, d, f, g, d', h => by
    have hl : ∀ (s : St) (d : Nat) (g : Frm), (setFr s d g).length = s.length := by
      intro s
      induction s with
      | nil => intro d g; rfl
      | cons y s ih => intro d g; simp only [setFr]; split <;> simp [ih]
    simp only [getFr] at h
    simp only [setFr]
    split at h
    · rename_i e
      rw [if_pos e]
      simp only [getFr]
      by_cases hd : d' = d
      · subst hd; rw [if_pos e, if_pos rfl]
      · rw [if_neg (by omega), if_neg hd, if_neg (by omega)]
    · rename_i e
      rw [if_neg e]
      have hlt := getFr_lt h
      simp only [getFr, hl]
      by_cases hd : d' = d
      · subst hd; rw [if_neg e, getFr_setFr s d' f g d' h]; simp
      · rw [getFr_setFr s d f g d' h]; simp [hd]
theorem setFr_length : ∀ (s : St) (d : Nat) (g : Frm), (setFr s d g).length = s.length
  | [], _, _ => rfl
  | y :: s, d, g => by simp only [setFr]; split <;> simp [setFr_length s]

theorem getBlk_setBlk {s : St} {d k : Nat} {b b' : Blk} (h : getBlk s d k = some b) (d' k' : Nat) : getBlk (setBlk s d k b') d' k' = if d' = d ∧ k' = k then some b' else getBlk s d' k' := by
  unfold getBlk at h
  cases hf : getFr s d with
  | none => simp [hf] at h
  | some f =>
    simp [hf] at h
    have hk := (List.getElem?_eq_some_iff.1 h).1
    simp only [getBlk, setBlk, hf, getFr_setFr s d f _ d' hf]
    by_cases hd : d' = d
    · subst hd
      simp only [if_true, Option.bind_some, hf]
      rw [List.getElem?_set]
      by_cases hkk : k = k'
      · subst hkk; simp [hk]
      · rw [if_neg hkk, if_neg (by simp; omega)]
    · simp [hd]
theorem getTok_setBlk {s : St} {d k : Nat} {b b' : Blk} (h : getBlk s d k = some b) (d' k' : Nat) : getTok (setBlk s d k b') d' k' = getTok s d' k' := by
  unfold getBlk at h
  cases hf : getFr s d with
  | none => simp [hf] at h
  | some f =>
    simp only [getTok, setBlk, hf, getFr_setFr s d f _ d' hf]
    by_cases hd : d' = d
    · subst hd; simp [hf]
    · simp [hd]
theorem getTok_setTok {s : St} {d k n : Nat} {m : Nat} (h : getTok s d k = some m) (d' k' : Nat) : getTok (setTok s d k n) d' k' = if d' = d ∧ k' = k then some n else getTok s d' k' := by
  unfold getTok at h
  cases hf : getFr s d with
  | none => simp [hf] at h
  | some f =>
    simp [hf] at h
    have hk := (List.getElem?_eq_some_iff.1 h).1
    simp only [getTok, setTok, hf, getFr_setFr s d f _ d' hf]
    by_cases hd : d' = d
    · subst hd
      simp only [if_true, Option.bind_some, hf]
      rw [List.getElem?_set]
      by_cases hkk : k = k'
      · subst hkk; simp [hk]
      · rw [if_neg hkk, if_neg (by simp; omega)]
    · simp [hd]
theorem getBlk_setTok {s : St} {d k n : Nat} (d' k' : Nat) : getBlk (setTok s d k n) d' k' = getBlk s d' k' := by
  simp only [getBlk, setTok]
  cases hf : getFr s d with
  | none => rfl
  | some f =>
    simp only [getFr_setFr s d f _ d' hf]
    by_cases hd : d' = d
    · subst hd; simp [hf]
    · simp [hd]
theorem getBlk_cons (f : Frm) (r : St) (d k : Nat) : getBlk (f :: r) d k = if d = r.length then f.blks[k]? else getBlk r d k := by
  simp only [getBlk, getFr]
  split <;> simp
theorem getTok_cons (f : Frm) (r : St) (d k : Nat) : getTok (f :: r) d k = if d = r.length then f.toks[k]? else getTok r d k := by
  simp only [getTok, getFr]
  split <;> simp

theorem fit_fit (d k tk : Nat) (x : AV) : fit d k tk (fit d k tk x) = fit d k tk x := by
  have hu : fit d k tk .undef = .undef := by simp [fit, refOk]
  have gen : fit d k tk x = (if refOk d k x = true then x else .undef) → fit d k tk (fit d k tk x) = fit d k tk x := fun he => by
    by_cases h : refOk d k x = true
    · rw [if_pos h] at he
      rw [he, he]
    · rw [if_neg h] at he
      rw [he, hu]
  cases x with
  | list tag n cs =>
    cases tag with
    | own d' k' =>
      by_cases h : d' < d ∨ d' = d ∧ k' < tk
      · simp [fit, h]
      · simp [fit, h, refOk]
    | _ => simp [fit, refOk]
  | _ => exact gen rfl

section
variable {X : Cx} {G G' : Gh} {s : St} {w w' : World}

theorem fit_rel {d k tk : Nat} {x : AV} {y : Value} (h : VRel G w x y) : VRel G w (fit d k tk x) y := by
  cases x with
  | list tag n cs =>
    cases tag with
    | own d' k' =>
      simp only [fit]
      split
      · exact h
      · cases h with | list h _ => exact .list h trivial
    | _ => simp only [fit, refOk, if_true]; exact h
  | _ => simp only [fit]; split <;> first | exact h | exact .undef

theorem CRel.fit {xs : List AV} {cs : Array Value} (h : CRel G w xs cs) (d k tk : Nat) : CRel G w (xs.map (fit d k tk)) cs :=
  ⟨h.one, by simp [h.size], fun j x hj => by
    rw [List.getElem?_map] at hj
    cases hx : xs[j]? with
    | none => rw [hx] at hj; simp at hj
    | some y => rw [hx] at hj; simp at hj; subst hj; exact fit_rel (h.at_ j y hx)⟩

/-- A new right to grow, of an empty slice. -/
def Gh.tok (G : Gh) (d k : Nat) (c : Nat × Nat × Value) : Gh := { G with cur := fun d' k' => if d' = d ∧ k' = k then some c else G.cur d' k' }

theorem rel_tok {f : Frm} {r : St} (hR : Rel X G (f :: r) w) (a : Option Addr) :
    Rel X (G.tok r.length f.toks.length (0, 0, .slice a 0 0)) ({ f with toks := f.toks ++ [0] } :: r) w ∧ Ext G w (G.tok r.length f.toks.length (0, 0, .slice a 0 0)) w := by
  have hnone : G.cur r.length f.toks.length = none := by
    cases hc : G.cur r.length f.toks.length with
    | none => rfl
    | some p =>
      obtain ⟨m, l, u⟩ := p
      have := (hR.tok _ _ _ _ _ hc).1
      rw [getTok_cons, if_pos rfl] at this
      have := (List.getElem?_eq_some_iff.1 this).1
      omega
  have he : Ext G w (G.tok r.length f.toks.length (0, 0, .slice a 0 0)) w := by
    refine ⟨rfl, rfl, rfl, Nat.le_refl _, fun _ _ h => ⟨rfl, h⟩, fun _ _ _ h => h, fun g l own h => ⟨l, own, h, Nat.le_refl _, fun _ _ => rfl, fun ho => ⟨rfl, ho⟩⟩, fun d k m l u h => ?_, fun _ _ h => h⟩
    refine ⟨m, l, u, ?_, Nat.le_refl _, fun _ => ⟨rfl, rfl⟩⟩
    simp only [Gh.tok]
    rw [if_neg (by rintro ⟨rfl, rfl⟩; rw [hnone] at h; cases h)]
    exact h
  have hb : ∀ d k, getBlk ({ f with toks := f.toks ++ [0] } :: r) d k = getBlk (f :: r) d k := fun d k => by simp only [getBlk_cons]
  refine ⟨⟨hR.st, fun d k g h => ?_, fun d k b h => hR.fit d k b (by rw [← hb]; exact h), fun d k m l u h => ?_, fun g => (hR.glob g).ext he, hR.free, fun d k h => by rw [hb]; exact hR.no d k h⟩, he⟩
  · obtain ⟨b, cs, h1, h2, h3, h4, h5⟩ := hR.blk d k g h
    exact ⟨b, cs, by rw [hb]; exact h1, h2, h3, h4, fun j x hj => (h5 j x hj).ext he⟩
  · simp only [Gh.tok] at h
    split at h
    · rename_i hc
      obtain ⟨rfl, rfl⟩ := hc
      injection h with h
      injection h with h1 h2
      injection h2 with h2 h3
      subst h1 h2 h3
      exact ⟨by rw [getTok_cons, if_pos rfl]; simp, .inl ⟨a, rfl, rfl, rfl⟩⟩
    · obtain ⟨h1, h2⟩ := hR.tok d k m l u h
      refine ⟨?_, h2.frame (fun g l o h => ⟨h, rfl⟩)⟩
      rw [getTok_cons] at h1 ⊢
      split
      · rename_i hd
        rw [if_pos hd] at h1
        rw [List.getElem?_append_left (List.getElem?_eq_some_iff.1 h1).1]
        exact h1
      · rename_i hd; rw [if_neg hd] at h1; exact h1

theorem full_val {n : Nat} {cs : List DV} {u : Value} (h : VRel G w (.list .full n cs) u) : ∃ a, u = .slice a n n := by
  cases h with | list _ ht => exact ht

theorem tokCells_rel {blks : List Blk} {r : St} : ∀ (xs : List AV) (ts : List Nat) (G : Gh) (vl : List Value), Rel X G ({ blks := blks, toks := ts } :: r) w → (∀ j x, xs[j]? = some x → VRel G w x (vl.getD j undef)) →
    ∃ G', Rel X G' ({ blks := blks, toks := (tokCells r.length xs ts).2 } :: r) w ∧ Ext G w G' w ∧ (tokCells r.length xs ts).1.length = xs.length ∧ ∀ j x, (tokCells r.length xs ts).1[j]? = some x → VRel G' w x (vl.getD j undef)
  | [], ts, G, vl, hR, hx => ⟨G, hR, .refl G w, rfl, fun j x hj => by simp [tokCells] at hj⟩
  | x :: xs, ts, G, vl, hR, hx => by
    have h0 := hx 0 x rfl
    have plain : tokCells r.length (x :: xs) ts = (x :: (tokCells r.length xs ts).1, (tokCells r.length xs ts).2) → ∃ G', Rel X G' ({ blks := blks, toks := (tokCells r.length (x :: xs) ts).2 } :: r) w ∧ Ext G w G' w ∧ (tokCells r.length (x :: xs) ts).1.length = (x :: xs).length ∧
        ∀ j y, (tokCells r.length (x :: xs) ts).1[j]? = some y → VRel G' w y (vl.getD j undef) := fun he => by
      obtain ⟨G', h1, h2, h3, h4⟩ := tokCells_rel xs ts G vl.tail hR (fun j y hj => by
        have := hx (j + 1) y (by simpa using hj)
        cases vl <;> simpa using this)
      rw [he]
      refine ⟨G', h1, h2, by simp [h3], fun j y hj => ?_⟩
      cases j with
      | zero => simp at hj; subst hj; exact h0.ext h2
      | succ j =>
        have := h4 j y (by simpa using hj)
        cases vl <;> simpa using this
    by_cases hf : x = .list .full 0 []
    · subst hf
      obtain ⟨a, ha⟩ := full_val h0
      obtain ⟨hR1, he1⟩ := rel_tok hR a
      obtain ⟨G', h1, h2, h3, h4⟩ := tokCells_rel xs (ts ++ [0]) _ vl.tail hR1 (fun j y hj => by
        have := (hx (j + 1) y (by simpa using hj)).ext he1
        cases vl <;> simpa using this)
      refine ⟨G', h1, he1.trans h2, by simp [tokCells, h3], fun j y hj => ?_⟩
      cases j with
      | zero =>
        simp [tokCells] at hj
        subst hj
        refine VRel.ext h2 (.list (tag := .own _ _) ?_ ⟨0, 0, .slice a 0 0, by simp [Gh.tok], Nat.le_refl _, fun _ => ⟨ha, rfl⟩⟩)
        rw [ha]; exact .nil
      | succ j =>
        have := h4 j y (by simpa [tokCells] using hj)
        cases vl <;> simpa using this
    · refine plain ?_
      conv => lhs; unfold tokCells
      split
      · rename_i heq; cases heq
      · rename_i heq; injection heq with h1 h2; exact absurd h1 hf
      · rename_i heq; injection heq with h1 h2; subst h1 h2; rfl

/-- A block that may be written. -/
def Gh.wr (G : Gh) (g d k : Nat) : Gh := { G with st := fun i => if i = g then .wr d k else G.st i, bl := fun d' k' => if d' = d ∧ k' = k then some g else G.bl d' k' }

theorem rel_blk_no {f : Frm} {r : St} (hR : Rel X G (f :: r) w) (t : TypeId) (tk : Nat) {xs : List AV} {N : Nat} (d k : Nat) (h : (G.wr N r.length f.blks.length).no d k) :
    (G.wr N r.length f.blks.length).bl d k = none ∧ ∃ b, getBlk ({ f with blks := f.blks ++ [{ ty := t, tk := tk, cells := xs }] } :: r) d k = some b := by
  obtain ⟨h1, b, h2⟩ := hR.no d k h
  rw [getBlk_cons] at h2
  constructor
  · simp only [Gh.wr]
    rw [if_neg]
    · exact h1
    · rintro ⟨rfl, rfl⟩
      rw [if_pos rfl] at h2
      have := (List.getElem?_eq_some_iff.1 h2).1
      omega
  · refine ⟨b, ?_⟩
    rw [getBlk_cons]
    split
    · rename_i hd
      rw [if_pos hd] at h2
      rw [List.getElem?_append_left (List.getElem?_eq_some_iff.1 h2).1]; exact h2
    · rename_i hd; rw [if_neg hd] at h2; exact h2

theorem rel_blk {f : Frm} {r : St} (hR : Rel X G (f :: r) w) (t : TypeId) (tk : Nat) {xs : List AV} {cs : Array Value} (hc : CRel G w xs cs) (hfit : ∀ x ∈ xs, fit r.length f.blks.length tk x = x) :
    Rel X (G.wr w.heap.size r.length f.blks.length) ({ f with blks := f.blks ++ [{ ty := t, tk := tk, cells := xs }] } :: r) (w.alloc (.cells cs t)) ∧
    Ext G w (G.wr w.heap.size r.length f.blks.length) (w.alloc (.cells cs t)) := by
  have hN := hR.free w.heap.size (Nat.le_refl _)
  have hnone : G.bl r.length f.blks.length = none := by
    cases hb : G.bl r.length f.blks.length with
    | none => rfl
    | some g =>
      obtain ⟨b, _, h1, _⟩ := hR.blk _ _ _ hb
      rw [getBlk_cons, if_pos rfl] at h1
      have := (List.getElem?_eq_some_iff.1 h1).1
      omega
  have he : Ext G w (G.wr w.heap.size r.length f.blks.length) (w.alloc (.cells cs t)) := by
    refine ⟨rfl, rfl, rfl, by simp, fun g hg hf => ⟨heap_old w _ hg, ?_⟩, fun d k g h => ?_, fun g l own h => ?_, fun d k m l u h => ⟨m, l, u, h, Nat.le_refl _, fun _ => ⟨rfl, rfl⟩⟩, fun _ _ h => h⟩
    · simp only [Gh.wr]; rw [if_neg (by omega)]; exact hf
    · simp only [Gh.wr]; rw [if_neg (by rintro ⟨rfl, rfl⟩; rw [hnone] at h; cases h)]; exact h
    · have hlt : g < w.heap.size := hR.lt (by rw [h]; simp)
      exact ⟨l, own, by simp only [Gh.wr]; rw [if_neg (by omega)]; exact h, Nat.le_refl _, fun j _ => World.cell?_of_block (heap_old w _ hlt), fun ho => ⟨heap_old w _ hlt, ho⟩⟩
  refine ⟨⟨fun d k g => ?_, fun d k g h => ?_, fun d k b h => ?_, fun d k m l u h => ?_, fun g => (hR.glob g).ext he, fun g hg => ?_, rel_blk_no hR t tk⟩, he⟩
  · simp only [Gh.wr]
    by_cases hg : g = w.heap.size
    · subst hg
      rw [if_pos rfl]
      constructor
      · intro h
        split at h
        · rename_i hc; rw [hc.1, hc.2]
        · have := (hR.st d k _).1 h; rw [hN] at this; cases this
      · intro h
        injection h with h1 h2
        rw [if_pos ⟨h1.symm, h2.symm⟩]
    · rw [if_neg hg]
      constructor
      · intro h
        split at h
        · injection h with h; exact absurd h.symm hg
        · exact (hR.st d k g).1 h
      · intro h
        have := (hR.st d k g).2 h
        rw [if_neg (by rintro ⟨rfl, rfl⟩; rw [hnone] at this; cases this)]
        exact this
  · simp only [Gh.wr] at h
    split at h
    · rename_i hc'
      obtain ⟨rfl, rfl⟩ := hc'
      injection h with h
      subst h
      exact ⟨{ ty := t, tk := tk, cells := xs }, cs, by rw [getBlk_cons, if_pos rfl]; simp, heap_new w _, hc.size, hc.one, fun j x hj => (hc.at_ j x hj).ext he⟩
    · obtain ⟨b, cs', h1, h2, h3, h4, h5⟩ := hR.blk d k g h
      refine ⟨b, cs', ?_, by rw [heap_old w _ (hR.wr_lt h)]; exact h2, h3, h4, fun j x hj => (h5 j x hj).ext he⟩
      rw [getBlk_cons] at h1 ⊢
      split
      · rename_i hd
        rw [if_pos hd] at h1
        rw [List.getElem?_append_left (List.getElem?_eq_some_iff.1 h1).1]
        exact h1
      · rename_i hd; rw [if_neg hd] at h1; exact h1
  · rw [getBlk_cons] at h
    split at h
    · rename_i hd
      rw [List.getElem?_append] at h
      split at h
      · exact hR.fit d k b (by rw [getBlk_cons, if_pos hd]; exact h)
      · rename_i hk
        have : k - f.blks.length = 0 := by
          have := (List.getElem?_eq_some_iff.1 h).1
          simp at this; omega
        rw [this] at h
        simp at h
        subst h
        have hk' : k = f.blks.length := by omega
        subst hd hk'
        exact hfit
    · rename_i hd
      exact hR.fit d k b (by rw [getBlk_cons, if_neg hd]; exact h)
  · obtain ⟨h1, h2⟩ := hR.tok d k m l u h
    refine ⟨by rw [getTok_cons] at h1 ⊢; exact h1, h2.frame fun g l o h => ?_⟩
    have hlt : g < w.heap.size := hR.lt (by rw [h]; simp)
    exact ⟨by simp only [Gh.wr]; rw [if_neg (by omega)]; exact h, heap_old w _ hlt⟩
  · simp at hg
    simp only [Gh.wr]; rw [if_neg (by omega)]; exact hR.free g (by omega)

theorem newBlk_rel {t : TypeId} {xs : List AV} {cs : Array Value} {x : AV} {s' : St} (hR : Rel X G s w) (hc : CRel G w xs cs) (h : newBlk t xs s = some (x, s')) :
    ∃ G', Rel X G' s' (w.alloc (.cells cs t)) ∧ Ext G w G' (w.alloc (.cells cs t)) ∧ VRel G' (w.alloc (.cells cs t)) x (.pointer (some ⟨w.heap.size, 0, none⟩)) := by
  unfold newBlk at h
  split at h
  · cases h
  · rename_i f r
    simp only [Option.some.injEq, Prod.mk.injEq] at h
    obtain ⟨rfl, rfl⟩ := h
    obtain ⟨G1, hR1, he1, hl1, hx1⟩ := tokCells_rel (blks := f.blks) xs f.toks G cs.toList hR (fun j x hj => by
      simpa [Array.getD_eq_getD_getElem?, List.getD_eq_getElem?_getD] using hc.at_ j x hj)
    have hc1 : CRel G1 w (tokCells r.length xs f.toks).1 cs := ⟨hc.one, by rw [hl1]; exact hc.size, fun j x hj => by
      simpa [Array.getD_eq_getD_getElem?, List.getD_eq_getElem?_getD] using hx1 j x hj⟩
    obtain ⟨hR2, he2⟩ := rel_blk hR1 t (tokCells r.length xs f.toks).2.length (hc1.fit r.length f.blks.length (tokCells r.length xs f.toks).2.length) (fun x hx => by
      obtain ⟨y, _, rfl⟩ := List.mem_map.1 hx
      exact fit_fit _ _ _ y)
    exact ⟨_, hR2, he1.trans he2, .ptr (by simp [Gh.wr])⟩

/-! ### alloc, box, make -/
theorem ok_alloc {t : TypeId} {x : AV} {s' : St} (hR : Rel X G s w) (h : aAlloc X.P t s = some (x, s')) : Ok1 X G s s' w (Instr.alloc t true (.tuple #[])) x := by
  unfold aAlloc at h
  split at h
  · rename_i z hz
    obtain ⟨zv, hzr, hzc⟩ := zCells_rel (X := X) hz G w
    obtain ⟨G', h1, h2, h3⟩ := newBlk_rel hR hzc h
    exact ⟨_, _, G', by simp [Instr.alloc, hzr, newVar, newRow], h1, h2, h3⟩
  · cases h
theorem ok_box {t : TypeId} {a x : AV} {va : Value} {s' : St} (hR : Rel X G s w) (ha : VRel G w a va) (h : aBox t a s = some (x, s')) : Ok1 X G s s' w (Instr.box t va) x := by
  unfold aBox at h
  split at h
  · rename_i ps hp
    obtain ⟨G', h1, h2, h3⟩ := newBlk_rel hR (parts_rel ha hp) h
    exact ⟨_, _, G', by simp [Instr.box, newVar, newRow], h1, h2, h3⟩
  · cases h

theorem plain_rel {x : AV} {y : Value} (h : VRel G w x y) : VRel G w (plainCell x) y := by
  unfold plainCell
  split
  · exact h
  · exact h
  · exact .undef
theorem plain_fit (d k tk : Nat) (x : AV) : fit d k tk (plainCell x) = plainCell x := by
  unfold plainCell
  split <;> simp [fit, refOk]

theorem ok_make {t : TypeId} {a b x : AV} {va vb : Value} {s' : St} (hR : Rel X G s w) (ha : VRel G w a va) (hb : VRel G w b vb) (h : aMake X.P t a b s = some (x, s')) : Ok1 X G s s' w (Instr.makeSlice t va vb) x := by
  unfold aMake at h
  split at h
  · rename_i e kn n kc c f r hu
    cases ha
    cases hb
    split at h
    · rename_i z hz
      split at h
      · rename_i hc
        obtain ⟨c1, c2, c3, c4, c5, c6⟩ := hc
        simp only [Option.some.injEq, Prod.mk.injEq] at h
        obtain ⟨rfl, rfl⟩ := h
        obtain ⟨zv, hzr, hzc⟩ := zCells_rel (X := X) hz G w
        obtain ⟨i, hi, hsz⟩ := cells_info c5
        have hzo : i.zero = some zv := by
          cases hzz : i.zero with
          | none => simp [zeroValue, run_typeInfo' hi, hzz] at hzr
          | some v => simp [zeroValue, run_typeInfo' hi, hzz] at hzr; rw [hzr]
        have hby : X.P.bytesOf e = i.bytes := by simp [Program.bytesOf, hi]
        have hrun := run_make (P := X.P) w t e i zv hu hi hzo kn kc n c c1 c2 (by rw [hby] at c3; rw [Int.mul_comm]; omega) c4
        have hzc' : CRel G w (z.map plainCell) zv.cells := ⟨hzc.one, by simp [hzc.size], fun j x hj => by
          rw [List.getElem?_map] at hj
          cases hx : z[j]? with
          | none => rw [hx] at hj; simp at hj
          | some y => rw [hx] at hj; simp at hj; subst hj; exact plain_rel (hzc.at_ j y hx)⟩
        have hrow := repl_rel hzc' (by simp; omega) c.toNat
        have hcells : madeCells zv.cells (c.toNat * i.size) = (Array.range (c.toNat * (z.map plainCell).length)).map (zv.cells[· % zv.cells.size]!) := by
          unfold madeCells; rw [hsz, List.length_map, c6]
        rw [← hcells] at hrow
        obtain ⟨hR2, he2⟩ := rel_blk hR e f.toks.length hrow (fun x hx => by
          have : ∀ n, ∀ x ∈ repl (z.map plainCell) n, fit r.length f.blks.length f.toks.length x = x := by
            intro n
            induction n with
            | zero => intro x hx; simp [repl] at hx
            | succ n ih =>
              intro x hx
              simp only [repl, List.mem_append] at hx
              rcases hx with hx | hx
              · obtain ⟨y, _, rfl⟩ := List.mem_map.1 hx; exact plain_fit _ _ _ y
              · exact ih x hx
          exact this _ x hx)
        exact ⟨_, _, _, hrun, hR2, he2, .msl (by simp [Gh.wr]) (by omega)⟩
      · cases h
    · cases h
  · cases h
end
end Go.Proofs.YtnfdepafmmibaaaDoor

/-! Stores, copies and appends do in Go what the machine says. -/
set_option linter.unusedVariables false
set_option linter.unusedSimpArgs false
namespace Go.Proofs.YtnfdepafmmibaaaDoor
open Go

theorem set_seg (l : List AV) (k : Nat) (v : AV) (rest : List AV) (hk : k + (rest.length + 1) ≤ l.length) :
    (l.set k v).take (k + 1) ++ rest ++ (l.set k v).drop (k + 1 + rest.length) = l.take k ++ (v :: rest) ++ l.drop (k + (rest.length + 1)) := by
  have h1 : (l.set k v).take (k + 1) = l.take k ++ [v] := by
    apply List.ext_getElem?
    intro j
    simp only [List.getElem?_take, List.getElem?_set, List.getElem?_append, List.length_take]
    by_cases hj : j < k
    · have : min k l.length = k := by omega
      simp [hj, this, Nat.ne_of_gt hj]
      omega
    · by_cases hj2 : j = k
      · subst hj2
        have : min j l.length = j := by omega
        have hjl : j < l.length := by omega
        simp [this, hjl]
      · have : min k l.length = k := by omega
        have h3 : ¬ j < k + 1 := by omega
        simp [hj, this, h3]
        omega
  have h2 : (l.set k v).drop (k + 1 + rest.length) = l.drop (k + (rest.length + 1)) := by
    apply List.ext_getElem?
    intro j
    simp only [List.getElem?_drop, List.getElem?_set]
    have : ¬ k = k + 1 + rest.length + j := by omega
    simp [this]
    congr 1
    omega
  rw [h1, h2]
  simp
theorem setAt_eq : ∀ (ps xs : List AV) (off : Nat), off + ps.length ≤ xs.length → setAt xs off ps = xs.take off ++ ps ++ xs.drop (off + ps.length)
  | [], xs, off, _ => by simp [setAt]
  | p :: ps, xs, off, h => by
    simp only [List.length_cons] at h
    rw [setAt, setAt_eq ps (xs.set off p) (off + 1) (by simp; omega), set_seg xs off p ps (by omega)]
    simp

section
variable {X : Cx} {G G' : Gh} {s s' : St} {w w' : World}

theorem splice_rel {xs ps : List AV} {cs : Array Value} {vl : List Value} (h : CRel G w xs cs) (h1 : ∀ x ∈ vl, x.oneCell' = true) (hl : vl.length = ps.length) (hp : ∀ j x, ps[j]? = some x → VRel G w x (vl.getD j undef)) (off : Nat) (hoff : off + ps.length ≤ xs.length) :
    CRel G w (setAt xs off ps) (cs.toList.take off ++ vl ++ cs.toList.drop (off + vl.length)).toArray := by
  rw [setAt_eq ps xs off hoff]
  have hs := h.size
  refine ⟨fun x hx => ?_, by simp; omega, fun j x hj => ?_⟩
  · simp only [List.mem_toArray, List.mem_append] at hx
    rcases hx with (hx | hx) | hx
    · exact h.one x (Array.mem_toList_iff.1 (List.mem_of_mem_take hx))
    · exact h1 x hx
    · exact h.one x (Array.mem_toList_iff.1 (List.mem_of_mem_drop hx))
  · have e1 : (xs.take off).length = off := by simp; omega
    have e2 : (cs.toList.take off).length = off := by simp; omega
    rw [Array.getD_eq_getD_getElem?]
    simp only [List.getElem?_toArray]
    rw [List.append_assoc, List.getElem?_append, e1] at hj
    rw [List.append_assoc, List.getElem?_append, e2]
    by_cases hjo : j < off
    · rw [if_pos hjo] at hj ⊢
      rw [List.getElem?_take, if_pos hjo] at hj ⊢
      simpa [Array.getD_eq_getD_getElem?] using h.at_ j x hj
    · rw [if_neg hjo] at hj ⊢
      rw [List.getElem?_append] at hj
      rw [List.getElem?_append]
      by_cases hjl : j - off < ps.length
      · rw [if_pos hjl] at hj
        rw [if_pos (by omega)]
        simpa [List.getD_eq_getElem?_getD] using hp _ x hj
      · rw [if_neg hjl] at hj
        rw [if_neg (by omega)]
        rw [List.getElem?_drop] at hj
        rw [List.getElem?_drop]
        have : off + ps.length + (j - off - ps.length) = j := by omega
        rw [this] at hj
        have : off + vl.length + (j - off - vl.length) = j := by omega
        rw [this]
        simpa [Array.getD_eq_getD_getElem?] using h.at_ j x hj

theorem rel_store (hR : Rel X G s w) {d k g : Nat} (hb : G.bl d k = some g) {b : Blk} (hg : getBlk s d k = some b) {cs : Array Value} (hh : w.heap[g]? = some (.cells cs b.ty (0, 0)))
    {ys : List AV} {cs' : Array Value} (hc : CRel G w ys cs') (hfit : ∀ x ∈ ys, fit d k b.tk x = x) :
    Rel X G (setBlk s d k { b with cells := ys }) (w.setRow g cs') ∧ Ext G w G (w.setRow g cs') := by
  have hmut := (hR.st d k g).1 hb
  have he : Ext G w G (w.setRow g cs') := by
    refine ⟨rfl, rfl, rfl, by simp, fun i hi hf => ⟨?_, hf⟩, fun _ _ _ h => h, fun i l own h => ?_, fun d k m l u h => ⟨m, l, u, h, Nat.le_refl _, fun _ => ⟨rfl, rfl⟩⟩, fun _ _ h => h⟩
    · exact setRow_other w g i cs' (fun e => by subst e; rw [hmut] at hf; cases hf)
    · have hne : i ≠ g := fun e => by subst e; rw [hmut] at h; cases h
      exact ⟨l, own, h, Nat.le_refl _, fun j _ => World.cell?_of_block (setRow_other w g i cs' hne), fun ho => ⟨setRow_other w g i cs' hne, ho⟩⟩
  refine ⟨⟨hR.st, fun d' k' g' h => ?_, fun d' k' b' h => ?_, fun d' k' m l u h => ?_, fun i => (hR.glob i).ext he, fun i hi => hR.free i (by simpa using hi), fun d' k' h => ?_⟩, he⟩
  · by_cases hdk : d' = d ∧ k' = k
    · obtain ⟨rfl, rfl⟩ := hdk
      rw [hb] at h
      injection h with h
      subst h
      exact ⟨{ b with cells := ys }, cs', by rw [getBlk_setBlk hg]; simp, setRow_heap w g cs cs' b.ty (0, 0) hh, hc.size, hc.one, fun j x hj => (hc.at_ j x hj).ext he⟩
    · obtain ⟨b', cs'', h1, h2, h3, h4, h5⟩ := hR.blk d' k' g' h
      have hne : g' ≠ g := fun e => by
        subst e
        have := (hR.st d' k' g').1 h
        rw [hmut] at this
        injection this with e1 e2
        exact hdk ⟨e1.symm, e2.symm⟩
      exact ⟨b', cs'', by rw [getBlk_setBlk hg, if_neg hdk]; exact h1, by rw [setRow_other w g g' cs' hne]; exact h2, h3, h4, fun j x hj => (h5 j x hj).ext he⟩
  · rw [getBlk_setBlk hg] at h
    split at h
    · rename_i hdk
      obtain ⟨rfl, rfl⟩ := hdk
      injection h with h
      subst h
      exact hfit
    · exact hR.fit d' k' b' h
  · obtain ⟨h1, h2⟩ := hR.tok d' k' m l u h
    refine ⟨by rw [getTok_setBlk hg]; exact h1, h2.frame fun i l o h => ⟨h, setRow_other w g i cs' (fun e => by subst e; rw [hmut] at h; cases h)⟩⟩
  · obtain ⟨h1, b', h2⟩ := hR.no d' k' h
    refine ⟨h1, ?_⟩
    rw [getBlk_setBlk hg]
    split
    · exact ⟨_, rfl⟩
    · exact ⟨b', h2⟩

theorem getD_toList' (cs : Array Value) (j : Nat) : cs.toList.getD j undef = cs.getD j undef := by
  simp [Array.getD_eq_getD_getElem?, List.getD_eq_getElem?_getD]

theorem fit_splice {d k tk : Nat} {xs ps : List AV} {off : Nat} (h : ∀ x ∈ xs, fit d k tk x = x) (hp : ∀ x ∈ ps, fit d k tk x = x) (hoff : off + ps.length ≤ xs.length) : ∀ x ∈ setAt xs off ps, fit d k tk x = x := by
  rw [setAt_eq ps xs off hoff]
  intro x hx
  simp only [List.mem_append] at hx
  rcases hx with (hx | hx) | hx
  · exact h x (List.mem_of_mem_take hx)
  · exact hp x hx
  · exact h x (List.mem_of_mem_drop hx)

theorem rel_splice (hR : Rel X G s w) {d k g : Nat} (hb : G.bl d k = some g) {b : Blk} (hg : getBlk s d k = some b) {ps : List AV} {vl : List Value} (h1 : ∀ x ∈ vl, x.oneCell' = true) (hl : vl.length = ps.length)
    (hp : ∀ j x, ps[j]? = some x → VRel G w x (vl.getD j undef)) (hfit : ∀ x ∈ ps, fit d k b.tk x = x) {off : Nat} (hoff : off + ps.length ≤ b.cells.length) :
    ∃ w', (storeCells ⟨g, off, none⟩ vl).run X.P w = .ok () w' ∧ Rel X G (setBlk s d k { b with cells := setAt b.cells off ps }) w' ∧ Ext G w G w' := by
  obtain ⟨b', cs, e1, e2, e3, e4, e5⟩ := hR.blk d k g hb
  rw [hg] at e1
  injection e1 with e1
  subst e1
  have hc : CRel G w b.cells cs := ⟨e4, e3, e5⟩
  have hrun := run_storeCells_at X.P g off b.ty vl 0 cs w e2 (by omega) h1
  have hsp := splice_rel hc h1 hl hp off hoff
  obtain ⟨r1, r2⟩ := rel_store hR hb hg e2 hsp (fit_splice (hR.fit d k b hg) hfit hoff)
  exact ⟨_, by simpa using hrun, r1, r2⟩

theorem ok_store {t : TypeId} {a y x : AV} {va vy : Value} (hR : Rel X G s w) (ha : VRel G w a va) (hy : VRel G w y vy) (h : aStore X.P t a y s = some (x, s')) :
    x = .undef ∧ ∃ w', (Instr.storeAt t va vy).run X.P w = .ok () w' ∧ Rel X G s' w' ∧ Ext G w G w' := by
  unfold aStore at h
  split at h
  · rename_i d k off ps i hps hi
    cases ha with
    | ptr hb =>
      rename_i g
      split at h
      · rename_i b hg
        split at h
        · rename_i hc
          simp only [Option.some.injEq, Prod.mk.injEq] at h
          obtain ⟨rfl, rfl⟩ := h
          have hpr := parts_rel hy hps
          have hfr := hpr.fit d k b.tk
          obtain ⟨w', r1, r2, r3⟩ := rel_splice hR hb hg (ps := ps.map (fit d k b.tk)) (vl := vy.cells.toList) (fun x hx => hpr.one x (Array.mem_toList_iff.1 hx)) (by simp [hpr.size]) (fun j x hj => by
            rw [getD_toList']; exact hfr.at_ j x hj) (fun x hx => by
            obtain ⟨z, _, rfl⟩ := List.mem_map.1 hx
            exact fit_fit d k b.tk z) (off := off) (by simp; omega)
          refine ⟨rfl, w', ?_, r2, r3⟩
          simp only [Instr.storeAt, Instr.sureAddr, Sem.run_bind, Sem.run_pure, Result.andThen_ok, storeVar, sizeOf, run_typeInfo' hi]
          rw [if_neg (by rw [hpr.size]; simp [hc.1])]
          exact r1
        · cases h
      · cases h
  · cases h

theorem src_rel {e : TypeId} {y : AV} {v : Value} {m : Nat} {ys : List DV} (hR : Rel X G s w) (hy : VRel G w y v) (hsz : 0 < X.P.cellsOf e) (h : srcCells X.P e y s = some (m, ys)) :
    ∃ vl : List Value, vl.length = ys.length ∧ ys.length = m * X.P.cellsOf e ∧ (∀ x ∈ vl, x.oneCell' = true) ∧ (∀ j d, ys[j]? = some d → DRel G.st w d (vl.getD j undef)) ∧ (∀ W : World, (Builtin.lenOf v).run X.P W = .ok m W) ∧
      ∀ (W : World) (n : Nat), (∀ a, W.cell? a = w.cell? a) → n ≤ m → (Builtin.firstCells (X.P.cellsOf e) n v).run X.P W = .ok (vl.take (n * X.P.cellsOf e)).toArray W := by
  have mk : ∀ (g off c : Nat) (f : Nat → Value), ys.length = m * X.P.cellsOf e → (∀ j d, ys[j]? = some d → w.cell? ⟨g, off + j, none⟩ = some (f j) ∧ DRel G.st w d (f j)) → v = .slice (some ⟨g, off, none⟩) m c →
      ∃ vl : List Value, vl.length = ys.length ∧ ys.length = m * X.P.cellsOf e ∧ (∀ x ∈ vl, x.oneCell' = true) ∧ (∀ j d, ys[j]? = some d → DRel G.st w d (vl.getD j undef)) ∧ (∀ W : World, (Builtin.lenOf v).run X.P W = .ok m W) ∧
      ∀ (W : World) (n : Nat), (∀ a, W.cell? a = w.cell? a) → n ≤ m → (Builtin.firstCells (X.P.cellsOf e) n v).run X.P W = .ok (vl.take (n * X.P.cellsOf e)).toArray W := fun g off c f hl hf hv => by
    have hg : ∀ j d, ys[j]? = some d → ((List.range ys.length).map f).getD j undef = f j := fun j d hj => by
      have := (List.getElem?_eq_some_iff.1 hj).1
      simp [List.getD_eq_getElem?_getD, this]
    refine ⟨(List.range ys.length).map f, by simp, hl, fun x hx => ?_, fun j d hj => by rw [hg j d hj]; exact (hf j d hj).2, fun W => by rw [hv]; rfl, fun W n hW hn => ?_⟩
    · simp at hx
      obtain ⟨j, hj, rfl⟩ := hx
      exact (hf j (ys[j]'hj) (by simp)).2.one
    · rw [hv]
      have hle : n * X.P.cellsOf e ≤ ys.length := by rw [hl]; exact Nat.mul_le_mul_right _ hn
      have := run_loadCells_list (P := X.P) W ⟨g, off, none⟩ (((List.range ys.length).map f).take (n * X.P.cellsOf e)) (fun j u hj => by
        rw [List.getElem?_take] at hj
        split at hj
        · rw [List.getElem?_map] at hj
          cases hr : (List.range ys.length)[j]? with
          | none => rw [hr] at hj; simp at hj
          | some i =>
            rw [hr] at hj
            simp at hj
            have hi := List.getElem?_eq_some_iff.1 hr
            simp at hi
            obtain ⟨h1, h2⟩ := hi
            subst h2
            rw [add_at, hW, (hf j (ys[j]'h1) (by simp)).1, hj]
        · cases hj)
      simpa [Builtin.firstCells, Nat.min_eq_left hle] using this
  unfold srcCells at h
  split at h
  · rename_i n cs
    split at h
    · rename_i hl
      simp only [Option.some.injEq, Prod.mk.injEq] at h
      obtain ⟨rfl, rfl⟩ := h
      cases hy with
      | list hd _ =>
        cases hd with
        | nil =>
          refine ⟨[], rfl, by simp, fun x hx => by simp at hx, fun j d hj => by simp at hj, fun W => rfl, fun W k hW hk => ?_⟩
          have : k = 0 := by omega
          subst this
          cases (‹Option Addr›) <;> simp [Builtin.firstCells, loadCells, loadCellsFrom]
        | list xs hn hg hlim hne hcc hx => exact mk _ _ _ xs hl (fun j d hj => ⟨hcc j d hj, hx j d hj⟩) rfl
    · cases h
  · rename_i b
    split at h
    · rename_i h1
      simp only [Option.some.injEq, Prod.mk.injEq] at h
      obtain ⟨rfl, rfl⟩ := h
      cases hy
      refine ⟨b.data.toList.map fun u => Value.int .u8 u.toNat, by simp [bcells], by simp [bcells, h1], fun x hx => ?_, fun j d hj => ?_, fun W => rfl, fun W k hW hk => ?_⟩
      · obtain ⟨u, _, rfl⟩ := List.mem_map.1 hx; rfl
      · obtain ⟨u, hu, rfl⟩ := bcells_get _ j hj
        have : (b.data.toList.map fun u => Value.int .u8 u.toNat).getD j undef = .int .u8 u.toNat := by
          rw [List.getD_eq_getElem?_getD, List.getElem?_map, hu]; rfl
        rw [this]
        exact .v rfl
      · rw [h1, Nat.mul_one]
        simp only [Builtin.firstCells, Sem.run_pure]
        congr 1
        apply Array.ext'
        have : (b.extract 0 k).data.toList = b.data.toList.take k := by
          rw [ByteArray.data_extract]
          simp
        simp [this]
    · cases h
  · rename_i d k off n c
    split at h
    · rename_i b hg
      split at h
      · rename_i hlen
        simp only [Option.map_eq_some_iff, Prod.mk.injEq] at h
        obtain ⟨cs, hd, rfl, rfl⟩ := h
        obtain ⟨d1, d2⟩ := dvs_get hd
        cases hy with
        | msl hb hn =>
          rename_i g
          refine mk g off c (fun j => (w.cell? ⟨g, off + j, none⟩).getD undef) (by rw [d1]; simp; omega) (fun j x hj => ?_) rfl
          obtain ⟨z, hz, hzd⟩ := d2 j x hj
          rw [List.getElem?_take] at hz
          split at hz
          · rw [List.getElem?_drop] at hz
            obtain ⟨y, hy1, _, hy2⟩ := hR.cell hb hg hz
            rw [hy1]
            exact ⟨rfl, dv_rel hy2 hzd⟩
          · cases hz
      · cases h
    · cases h
  · cases h

theorem dv_fit (d k tk : Nat) (y : DV) : fit d k tk y.av = y.av := by
  cases y <;> simp [DV.av, fit, refOk]

theorem ok_copy {t u ty : TypeId} {a y x : AV} {va vy : Value} (hR : Rel X G s w) (ha : VRel G w a va) (hy : VRel G w y vy) (h : aCopy X.P t a y s = some (x, s')) {ts : Array TypeId} {args : Array Value} (ht : ts[0]? = some t)
    (h0 : args[0]? = some va) (h1 : args[1]? = some vy) : Ok1 X G s s' w (Builtin.copy_ ts ty args) x := by
  unfold aCopy at h
  split at h
  · rename_i e d k off n c hu
    cases ha with
    | msl hb hn =>
      rename_i g
      split at h
      · rename_i m ys b hsrc hg
        split at h
        · rename_i hc
          simp only [Option.some.injEq, Prod.mk.injEq] at h
          obtain ⟨rfl, rfl⟩ := h
          obtain ⟨vl, v1, v2, v3, v4, v5, v6⟩ := src_rel hR hy hc.2 hsrc
          have hle : min m n * X.P.cellsOf e ≤ ys.length := by rw [v2]; exact Nat.mul_le_mul_right _ (Nat.min_le_left _ _)
          obtain ⟨w', r1, r2, r3⟩ := rel_splice hR hb hg (ps := (ys.take (min m n * X.P.cellsOf e)).map DV.av) (vl := vl.take (min m n * X.P.cellsOf e)) (fun x hx => v3 x (List.mem_of_mem_take hx)) (by simp; omega) (fun j x hj => by
            rw [List.getElem?_map] at hj
            cases hq : (ys.take (min m n * X.P.cellsOf e))[j]? with
            | none => rw [hq] at hj; simp at hj
            | some z =>
              rw [hq] at hj
              simp at hj
              subst hj
              rw [List.getElem?_take] at hq
              split at hq
              · rename_i hlt
                have := v4 j z hq
                rw [List.getD_eq_getElem?_getD, List.getElem?_take, if_pos hlt, ← List.getD_eq_getElem?_getD]
                exact this.av
              · cases hq) (fun x hx => by
            obtain ⟨z, _, rfl⟩ := List.mem_map.1 hx
            exact dv_fit d k b.tk z) (off := off) (by simp; omega)
          refine ⟨_, w', G, ?_, r2, r3, .v rfl⟩
          simp only [Builtin.copy_, ht, h0, h1, Sem.run_bind, run_underlying' hu, Result.andThen_ok, v5, run_sizeOf' hc.2]
          have hm : Nat.min m n = min m n := rfl
          rw [hm, v6 w (min m n) (fun _ => rfl) (Nat.min_le_left _ _)]
          simp only [Result.andThen_ok, Sem.run_bind]
          simp only [r1, Result.andThen_ok]
          rfl
        · cases h
      · cases h
  · cases h
end
end Go.Proofs.YtnfdepafmmibaaaDoor

/-! Appends do in Go what the machine says; all operations that turn memory. -/
set_option linter.unusedVariables false
set_option linter.unusedSimpArgs false
namespace Go.Proofs.YtnfdepafmmibaaaDoor
open Go

/-- A list moved to a new block, with room to grow. -/
def Gh.grow (G : Gh) (N D K l : Nat) (c : Nat × Nat × Value) : Gh where
  st i := if i = N then .imm l (some (D, K)) else match G.st i with
    | .imm l' (some o) => if o = (D, K) then .imm l' none else .imm l' (some o)
    | x => x
  bl := G.bl
  cur d k := if d = D ∧ k = K then some c else G.cur d k
  no := G.no

/-- A list that grew in its block. -/
def Gh.here (G : Gh) (g D K l : Nat) (c : Nat × Nat × Value) : Gh where
  st i := if i = g then .imm l (some (D, K)) else G.st i
  bl := G.bl
  cur d k := if d = D ∧ k = K then some c else G.cur d k
  no := G.no

section
variable {X : Cx} {G G' : Gh} {s s' : St} {w w' : World}

theorem Gh.grow_mut {N D K l : Nat} {c : Nat × Nat × Value} (hN : G.st N = .free) {i d k : Nat} : (G.grow N D K l c).st i = .wr d k ↔ G.st i = .wr d k := by
  simp only [Gh.grow]
  by_cases hi : i = N
  · subst hi; rw [if_pos rfl, hN]; simp
  · rw [if_neg hi]
    cases hst : G.st i with
    | imm l' o =>
      cases o with
      | none => simp
      | some o => simp only; split <;> simp
    | _ => simp

theorem rel_regrow (hR : Rel X G s w) {D K n c sz : Nat} {cs : Array Value} {ty : TypeId} (hb : ∀ d k, getBlk s' d k = getBlk s d k) (ht : getTok s' D K = some n)
    (hto : ∀ d k m, ¬ (d = D ∧ k = K) → getTok s d k = some m → getTok s' d k = some m) (hcur : ∀ m l u, G.cur D K = some (m, l, u) → m < n) (h0 : 0 < n) (hn : n ≤ c) (hcs : cs.size = c * sz) :
    Rel X (G.grow w.heap.size D K (n * sz) (n, n * sz, .slice (some ⟨w.heap.size, 0, none⟩) n c)) s' (w.alloc (.cells cs ty)) ∧
    Ext G w (G.grow w.heap.size D K (n * sz) (n, n * sz, .slice (some ⟨w.heap.size, 0, none⟩) n c)) (w.alloc (.cells cs ty)) := by
  have hN := hR.free w.heap.size (Nat.le_refl _)
  have he : Ext G w (G.grow w.heap.size D K (n * sz) (n, n * sz, .slice (some ⟨w.heap.size, 0, none⟩) n c)) (w.alloc (.cells cs ty)) := by
    refine ⟨rfl, rfl, rfl, by simp, fun g hg hf => ⟨heap_old w _ hg, ?_⟩, fun d k g h => h, fun g l own h => ?_, fun d k m l u h => ?_, fun _ _ h => h⟩
    · simp only [Gh.grow]; rw [if_neg (by omega), hf]
    · have hlt : g < w.heap.size := hR.lt (by rw [h]; simp)
      refine ⟨l, if own = some (D, K) then none else own, ?_, Nat.le_refl _, fun j _ => World.cell?_of_block (heap_old w _ hlt), fun ho => ⟨heap_old w _ hlt, by simp [ho]⟩⟩
      simp only [Gh.grow]; rw [if_neg (by omega), h]
      cases own with
      | none => rfl
      | some o =>
        by_cases ho : o = (D, K)
        · simp [ho]
        · simp [ho]
    · by_cases hdk : d = D ∧ k = K
      · obtain ⟨rfl, rfl⟩ := hdk
        have := hcur m l u h
        exact ⟨n, _, _, by simp [Gh.grow]; exact ⟨rfl, rfl⟩, by omega, fun e => by omega⟩
      · exact ⟨m, l, u, by simp only [Gh.grow]; rw [if_neg hdk]; exact h, Nat.le_refl _, fun _ => ⟨rfl, rfl⟩⟩
  refine ⟨⟨fun d k g => ?_, fun d k g h => ?_, fun d k b h => hR.fit d k b (by rw [← hb]; exact h), fun d k m l u h => ?_, fun g => (hR.glob g).ext he, fun g hg => ?_, fun d k h => by rw [hb]; exact hR.no d k h⟩, he⟩
  · rw [Gh.grow_mut hN]; exact hR.st d k g
  · obtain ⟨b, cs', h1, h2, h3, h4, h5⟩ := hR.blk d k g h
    exact ⟨b, cs', by rw [hb]; exact h1, by rw [heap_old w _ (hR.wr_lt h)]; exact h2, h3, h4, fun j x hj => (h5 j x hj).ext he⟩
  · simp only [Gh.grow] at h
    split at h
    · rename_i hdk
      obtain ⟨rfl, rfl⟩ := hdk
      simp only [Option.some.injEq, Prod.mk.injEq] at h
      obtain ⟨rfl, rfl, rfl⟩ := h
      exact ⟨ht, .inr ⟨w.heap.size, c, sz, ty, cs, rfl, h0, hn, by simp [Gh.grow], heap_new w _, rfl, hcs⟩⟩
    · rename_i hdk
      obtain ⟨h1, h2⟩ := hR.tok d k m l u h
      refine ⟨hto d k m hdk h1, ?_⟩
      rcases h2 with h2 | ⟨g, c', sz', ty', cs', e1, e2, e3, e4, e5, e6, e7⟩
      · exact .inl h2
      · have hlt : g < w.heap.size := hR.lt (by rw [e4]; simp)
        refine .inr ⟨g, c', sz', ty', cs', e1, e2, e3, ?_, by rw [heap_old w _ hlt]; exact e5, e6, e7⟩
        simp only [Gh.grow]; rw [if_neg (by omega), e4]
        simp only
        rw [if_neg (by intro e; injection e with a b; exact hdk ⟨a, b⟩)]
  · simp at hg
    simp only [Gh.grow]; rw [if_neg (by omega), hR.free g (by omega)]

theorem rel_here (hR : Rel X G s w) {D K m k c sz g l : Nat} {cs : Array Value} {ty : TypeId} {vl : List Value} (hb : ∀ d k, getBlk s' d k = getBlk s d k) (ht : getTok s' D K = some (m + k))
    (hto : ∀ d k m, ¬ (d = D ∧ k = K) → getTok s d k = some m → getTok s' d k = some m) {u : Value} (hcur : G.cur D K = some (m, l, u)) (hst : G.st g = .imm l (some (D, K))) (hh : w.heap[g]? = some (.cells cs ty (0, 0)))
    (hl : l = m * sz) (hcs : cs.size = c * sz) (hk : 0 < k) (hmk : m + k ≤ c) (hvl : vl.length = k * sz) :
    Rel X (G.here g D K (l + vl.length) (m + k, l + vl.length, .slice (some ⟨g, 0, none⟩) (m + k) c)) s' (w.setRow g (cs.toList.take l ++ vl ++ cs.toList.drop (l + vl.length)).toArray) ∧
    Ext G w (G.here g D K (l + vl.length) (m + k, l + vl.length, .slice (some ⟨g, 0, none⟩) (m + k) c)) (w.setRow g (cs.toList.take l ++ vl ++ cs.toList.drop (l + vl.length)).toArray) := by
  have hroom : l + vl.length ≤ cs.size := by rw [hl, hvl, hcs, ← Nat.add_mul]; exact Nat.mul_le_mul_right _ hmk
  have hg : g < w.heap.size := (Array.getElem?_eq_some_iff.1 hh).1
  have he : Ext G w (G.here g D K (l + vl.length) (m + k, l + vl.length, .slice (some ⟨g, 0, none⟩) (m + k) c)) (w.setRow g (cs.toList.take l ++ vl ++ cs.toList.drop (l + vl.length)).toArray) := by
    refine ⟨rfl, rfl, rfl, by simp, fun i hi hf => ⟨setRow_other w g i _ (fun e => by subst e; rw [hst] at hf; cases hf), ?_⟩, fun d k g h => h, fun i l' own h => ?_, fun d k' m' l' u' h => ?_, fun _ _ h => h⟩
    · simp only [Gh.here]; rw [if_neg (fun e => by subst e; rw [hst] at hf; cases hf)]; exact hf
    · by_cases hi : i = g
      · subst hi
        rw [hst] at h
        injection h with h1 h2
        subst h1 h2
        refine ⟨l + vl.length, some (D, K), by simp [Gh.here], by omega, fun j hj => ?_, fun ho => by cases ho⟩
        rw [cell_of (setRow_heap w i cs _ ty (0, 0) hh), cell_of hh]
        simp only [List.getElem?_toArray]
        rw [List.append_assoc, List.getElem?_append_left (by simp; omega), List.getElem?_take, if_pos hj]
        simp
      · exact ⟨l', own, by simp only [Gh.here]; rw [if_neg hi]; exact h, Nat.le_refl _, fun j _ => World.cell?_of_block (setRow_other w g i _ hi), fun ho => ⟨setRow_other w g i _ hi, ho⟩⟩
    · by_cases hdk : d = D ∧ k' = K
      · obtain ⟨rfl, rfl⟩ := hdk
        rw [hcur] at h
        simp only [Option.some.injEq, Prod.mk.injEq] at h
        obtain ⟨rfl, rfl, rfl⟩ := h
        exact ⟨m + k, _, _, by simp [Gh.here]; exact ⟨rfl, rfl⟩, by omega, fun e => by omega⟩
      · exact ⟨m', l', u', by simp only [Gh.here]; rw [if_neg hdk]; exact h, Nat.le_refl _, fun _ => ⟨rfl, rfl⟩⟩
  refine ⟨⟨fun d k' i => ?_, fun d k' i h => ?_, fun d k' b h => hR.fit d k' b (by rw [← hb]; exact h), fun d k' m' l' u' h => ?_, fun i => (hR.glob i).ext he, fun i hi => ?_, fun d k h => by rw [hb]; exact hR.no d k h⟩, he⟩
  · simp only [Gh.here]
    by_cases hi : i = g
    · subst hi
      rw [if_pos rfl, hR.st d k' i, hst]; simp
    · rw [if_neg hi]; exact hR.st d k' i
  · obtain ⟨b, cs', h1, h2, h3, h4, h5⟩ := hR.blk d k' i h
    have hne : i ≠ g := fun e => by
      subst e
      have := (hR.st d k' i).1 h
      rw [hst] at this; cases this
    exact ⟨b, cs', by rw [hb]; exact h1, by rw [setRow_other w g i _ hne]; exact h2, h3, h4, fun j x hj => (h5 j x hj).ext he⟩
  · simp only [Gh.here] at h
    split at h
    · rename_i hdk
      obtain ⟨rfl, rfl⟩ := hdk
      simp only [Option.some.injEq, Prod.mk.injEq] at h
      obtain ⟨rfl, rfl, rfl⟩ := h
      refine ⟨ht, .inr ⟨g, c, sz, ty, _, rfl, by omega, hmk, by simp [Gh.here], setRow_heap w g cs _ ty (0, 0) hh, ?_, ?_⟩⟩
      · rw [hl, hvl, Nat.add_mul]
      · simp; omega
    · rename_i hdk
      obtain ⟨h1, h2⟩ := hR.tok d k' m' l' u' h
      refine ⟨hto d k' m' hdk h1, h2.frame' ?_⟩
      intro i l'' h
      have hne : i ≠ g := fun e => by
        subst e
        rw [hst] at h
        injection h with _ h
        injection h with h
        injection h with a b
        exact hdk ⟨a.symm, b.symm⟩
      exact ⟨by simp only [Gh.here]; rw [if_neg hne]; exact h, setRow_other w g i _ hne⟩
  · simp at hi
    simp only [Gh.here]; rw [if_neg (by omega)]; exact hR.free i hi
end
end Go.Proofs.YtnfdepafmmibaaaDoor

/-! Append, and all operations that turn memory but calls. -/
set_option linter.unusedVariables false
set_option linter.unusedSimpArgs false
namespace Go.Proofs.YtnfdepafmmibaaaDoor
open Go

theorem Gh.grow_cur (G : Gh) (N D K l : Nat) (c : Nat × Nat × Value) : (G.grow N D K l c).cur D K = some c := by simp [Gh.grow]
theorem Gh.here_cur (G : Gh) (g D K l : Nat) (c : Nat × Nat × Value) : (G.here g D K l c).cur D K = some c := by simp [Gh.here]

section
variable {X : Cx} {G G' : Gh} {s s' : St} {w w' : World}

theorem run_append_new {ts : Array TypeId} {t u ty e : TypeId} {du : TypeDesc} {args : Array Value} {base : Option Addr} {n c m : Nat} {v z : Value} {i : TypeInfo} {olds news : Array Value}
    (ht : ts[0]? = some t) (hu : X.P.underlying t = some (.slice e)) (ht1 : ts[1]? = some u) (hu1 : X.P.underlying u = some du) (hdu : (∃ e', du = .slice e') ∨ du = .string) (h0 : args[0]? = some (.slice base n c)) (h1 : args[1]? = some v)
    (hi : X.P.info? e = some i) (hz : i.zero = some z) (hm : (Builtin.lenOf v).run X.P w = .ok m w) (hgt : c < n + m) (h63 : n + m ≤ 9223372036854775807) (hby : (n + m) * i.bytes ≤ 140737488355328)
    (ho : (Builtin.firstCells i.size n (.slice base n c)).run X.P w.drew = .ok olds w.drew) (hn : (Builtin.firstCells i.size m v).run X.P w.drew = .ok news w.drew) :
    (Builtin.append_ ts ty args).run X.P w = .ok (.slice (some ⟨w.heap.size, 0, none⟩) (n + m) (grownCap w (n + m) c e))
      (w.drew.alloc (.cells (olds ++ news ++ Builtin.zeroCells z.cells (grownCap w (n + m) c e - (n + m))) e)) := by
  have hn' : ¬ (n + m ≤ c) := by omega
  have h63' : ¬ (9223372036854775807 < ((n : Int) + (m : Int))) := by omega
  have h48' : ¬ (281474976710656 < Builtin.nextslicecap (n + m) c * i.bytes) := by
    have := growslice_fits hgt hby
    omega
  rcases hdu with ⟨e', rfl⟩ | rfl <;>
    simp [Builtin.append_, ht, h0, h1, run_underlying' hu, ht1, run_underlying' hu1, sizeOf, run_typeInfo' hi, hm, hn', h63', h48', Question.forced, ho, hn, newRow, grownCap, zeroValue, hz]

theorem run_append_here {ts : Array TypeId} {t u ty e : TypeId} {du : TypeDesc} {args : Array Value} {base : Option Addr} {n c m : Nat} {v : Value} {i : TypeInfo} {news : Array Value}
    (ht : ts[0]? = some t) (hu : X.P.underlying t = some (.slice e)) (ht1 : ts[1]? = some u) (hu1 : X.P.underlying u = some du) (hdu : (∃ e', du = .slice e') ∨ du = .string) (h0 : args[0]? = some (.slice base n c)) (h1 : args[1]? = some v)
    (hi : X.P.info? e = some i) (hm : (Builtin.lenOf v).run X.P w = .ok m w) (hle : n + m ≤ c) (hn : (Builtin.firstCells i.size m v).run X.P w = .ok news w)
    (hst : (match base with | some a => storeCells (a.add (n * i.size)) news.toList | none => pure ()).run X.P w = .ok () w') :
    (Builtin.append_ ts ty args).run X.P w = .ok (.slice base (n + m) c) w' := by
  cases base <;> rcases hdu with ⟨e', rfl⟩ | rfl <;> simp only [Sem.run_pure] at hst <;>
    simp [Builtin.append_, ht, h0, h1, run_underlying' hu, ht1, run_underlying' hu1, sizeOf, run_typeInfo' hi, hm, hle, hn, hst]
  all_goals first | (injection hst) | skip

/-- A list out of two rows that lie one behind the other. -/
theorem append_list {G : Gh} {w : World} {xs ys : List DV} {vx vy : List Value} {g lim : Nat} {own : Option (Nat × Nat)} {n c : Nat} (hst : G.st g = .imm lim own) (hl : xs.length + ys.length ≤ lim) (hne : ys ≠ []) (hn : n ≤ c)
    (hlx : vx.length = xs.length) (hly : vy.length = ys.length) (hx : ∀ j d, xs[j]? = some d → DRel G.st w d (vx.getD j undef)) (hy : ∀ j d, ys[j]? = some d → DRel G.st w d (vy.getD j undef))
    (hc : ∀ j v, (vx ++ vy)[j]? = some v → w.cell? ⟨g, j, none⟩ = some v) : DRel G.st w (.list n (xs ++ ys)) (.slice (some ⟨g, 0, none⟩) n c) := by
  refine .list (fun j => (vx ++ vy).getD j undef) hn hst (by simp; omega) (by simp [hne]) (fun j d hj => ?_) (fun j d hj => ?_)
  · have hlt := (List.getElem?_eq_some_iff.1 hj).1
    simp at hlt
    rw [Nat.zero_add]
    refine hc j _ ?_
    rw [List.getD_eq_getElem?_getD, List.getElem?_eq_getElem (by simp; omega)]
    rfl
  · rw [List.getElem?_append] at hj
    rw [List.getD_eq_getElem?_getD, List.getElem?_append, hlx]
    split at hj
    · rename_i hlt
      rw [if_pos hlt, ← List.getD_eq_getElem?_getD]
      exact hx j d hj
    · rename_i hge
      rw [if_neg hge, ← List.getD_eq_getElem?_getD]
      exact hy _ d hj

theorem ok_append {t u ty : TypeId} {du : TypeDesc} {a y x : AV} {va vy : Value} (hR : Rel X G s w) (ha : VRel G w a va) (hy : VRel G w y vy) (h : aAppend X.P t a y s = some (x, s')) {ts : Array TypeId} {args : Array Value} (ht : ts[0]? = some t)
    (ht1 : ts[1]? = some u) (hu1 : X.P.underlying u = some du) (hdu : (∃ e', du = .slice e') ∨ du = .string) (h0 : args[0]? = some va) (h1 : args[1]? = some vy) : Ok1 X G s s' w (Builtin.append_ ts ty args) x := by
  unfold aAppend at h
  split at h
  · rename_i e tag n cs hu
    split at h
    · rename_i m ys hsrc
      split at h
      · rename_i hc
        obtain ⟨c1, c2, c3, c4, c5, c6⟩ := hc
        obtain ⟨i, hi, hsz⟩ := cells_info c2
        have hby : X.P.bytesOf e = i.bytes := by simp [Program.bytesOf, hi]
        obtain ⟨zl, hzl, hzlen⟩ : ∃ zl, zCells X.P e = some zl ∧ zl.length = X.P.cellsOf e := by
          cases hq : zCells X.P e with
          | none => simp [hq] at c5
          | some zl => simp [hq] at c5; exact ⟨zl, rfl, c5⟩
        obtain ⟨z, hzr, hzc⟩ := zCells_rel (X := X) hzl G w
        have hz : i.zero = some z := by
          cases hzz : i.zero with
          | none => simp [zeroValue, run_typeInfo' hi, hzz] at hzr
          | some v => simp [zeroValue, run_typeInfo' hi, hzz] at hzr; rw [hzr]
        have hzs : z.cells.size = X.P.cellsOf e := by rw [hzc.size, hzlen]
        obtain ⟨vly, v1, v2, v3, v4, v5, v6⟩ := src_rel hR hy c2 hsrc
        have hsa : srcCells X.P e (.list tag n cs) s = some (n, cs) := by simp [srcCells, c1]
        obtain ⟨vlx, w1, w2, w3, w4, w5, w6⟩ := src_rel hR ha c2 hsa
        cases ha with
        | list hd htag =>
          have hva : ∃ base c, va = .slice base n c ∧ n ≤ c := by
            cases hd with
            | nil => exact ⟨_, _, rfl, by omega⟩
            | list _ hn => exact ⟨_, _, rfl, hn⟩
          obtain ⟨base, c, rfl, hnc⟩ := hva
          split at h
          · -- nothing is appended
            rename_i hm0
            subst hm0
            simp only [Option.some.injEq, Prod.mk.injEq] at h
            obtain ⟨rfl, rfl⟩ := h
            refine ⟨.slice base n c, w, G, ?_, hR, .refl G w, .list hd htag⟩
            have hz0 := v6 w 0 (fun _ => rfl) (Nat.le_refl _)
            have := run_append_here (X := X) (w := w) (w' := w) (ty := ty) (base := base) (n := n) (c := c) (m := 0) (news := #[]) ht hu ht1 hu1 hdu h0 h1 hi (v5 w) (by omega) (by rw [← hsz] at hz0; simpa using hz0) (by cases base <;> simp [storeCells])
            simpa using this
          · rename_i hm0
            have hm : 0 < m := Nat.pos_of_ne_zero hm0
            simp only [Option.map_eq_some_iff] at h
            obtain ⟨⟨tg, s1⟩, hgrow, hx⟩ := h
            simp only [Prod.mk.injEq] at hx
            obtain ⟨rfl, rfl⟩ := hx
            have hyne : ys ≠ [] := fun e0 => by
              rw [e0] at v2
              have := Nat.mul_pos hm c2
              simp at v2; omega
            -- a new block
            have new : ∀ (D K : Nat) (s1 : St), c < n + m → (∀ d k, getBlk s1 d k = getBlk s d k) → getTok s1 D K = some (n + m) →
                (∀ d k m, ¬ (d = D ∧ k = K) → getTok s d k = some m → getTok s1 d k = some m) → (∀ m' l u, G.cur D K = some (m', l, u) → m' < n + m) → Ok1 X G s s1 w (Builtin.append_ ts ty args) (.list (.own D K) (n + m) (cs ++ ys)) := fun D K s1 hlt hb htk hto hcur => by
              have hRd := rel_drew hR
              have ho := w6 w.drew n (fun _ => rfl) (Nat.le_refl _)
              have hn := v6 w.drew m (fun _ => rfl) (Nat.le_refl _)
              rw [← w2, ← w1, List.take_length] at ho
              rw [← v2, ← v1, List.take_length] at hn
              rw [← hsz] at ho hn
              have hrun := run_append_new (X := X) (w := w) (ty := ty) ht hu ht1 hu1 hdu h0 h1 hi hz (v5 w) hlt c4 (by rw [← hby]; exact c3) ho hn
              have hcap := grownCap_ge w (n + m) c e
              have hlx : vlx.length = n * X.P.cellsOf e := by rw [w1, w2]
              have hly : vly.length = m * X.P.cellsOf e := by rw [v1, v2]
              have hcs : (vlx.toArray ++ vly.toArray ++ Builtin.zeroCells z.cells (grownCap w (n + m) c e - (n + m))).size = grownCap w (n + m) c e * X.P.cellsOf e := by
                simp only [Array.size_append, List.size_toArray, size_zeroCells, hzs, hlx, hly]
                rw [← Nat.add_mul, ← Nat.add_mul]
                congr 1
                omega
              obtain ⟨r1, r2⟩ := rel_regrow (s' := s1) hRd (ty := e) (cs := vlx.toArray ++ vly.toArray ++ Builtin.zeroCells z.cells (grownCap w (n + m) c e - (n + m))) (D := D) (K := K) (n := n + m) hb htk hto hcur (by omega) hcap hcs
              have hext := (ext_drew G w).trans r2
              have hdl : (cs ++ ys).length = (n + m) * X.P.cellsOf e := by rw [List.length_append, w2, v2, Nat.add_mul]
              refine ⟨_, _, _, hrun, r1, hext, .list (append_list (vx := vlx) (vy := vly) (own := some (D, K)) (lim := (n + m) * X.P.cellsOf e) (by simp [Gh.grow]) (by rw [← List.length_append, hdl]; exact Nat.le_refl _) hyne hcap w1 v1
                (fun j d hj => (w4 j d hj).ext hext) (fun j d hj => (v4 j d hj).ext hext) (fun j v hj => ?_)) ⟨n + m, _, _, Gh.grow_cur _ _ _ _ _ _, Nat.le_refl _, fun _ => ⟨rfl, hdl⟩⟩⟩
              refine (cell_of (g := w.heap.size) (heap_new w.drew _) j).trans ?_
              have hlt := (List.getElem?_eq_some_iff.1 hj).1
              rw [Array.getElem?_append_left (by simpa using hlt), ← hj]
              simp
            cases tag with
            | none => simp [growTok] at hgrow
            | full =>
              obtain ⟨ad, had⟩ := htag
              injection had with _ _ had
              subst had
              unfold growTok at hgrow
              simp only at hgrow
              split at hgrow
              · cases hgrow
              · rename_i f r
                simp only [Option.some.injEq, Prod.mk.injEq] at hgrow
                obtain ⟨rfl, rfl⟩ := hgrow
                refine new r.length f.toks.length _ (by omega) (fun d k => by simp only [getBlk_cons]) (by rw [getTok_cons, if_pos rfl]; simp) (fun d k m' hdk hk => ?_) (fun m' l u hcu => ?_)
                · rw [getTok_cons] at hk ⊢
                  split
                  · rename_i hd
                    rw [if_pos hd] at hk
                    rw [List.getElem?_append_left (List.getElem?_eq_some_iff.1 hk).1]
                    exact hk
                  · rename_i hd; rw [if_neg hd] at hk; exact hk
                · have := (hR.tok _ _ _ _ _ hcu).1
                  rw [getTok_cons, if_pos rfl] at this
                  have := (List.getElem?_eq_some_iff.1 this).1
                  omega
            | own d k =>
              obtain ⟨m0, l0, u0, t1, t2, t3⟩ := htag
              obtain ⟨g1, g2⟩ := hR.tok d k m0 l0 u0 t1
              unfold growTok at hgrow
              simp only [g1] at hgrow
              split at hgrow
              · rename_i hmn
                subst hmn
                simp only [Option.some.injEq, Prod.mk.injEq] at hgrow
                obtain ⟨rfl, rfl⟩ := hgrow
                obtain ⟨hu0, hl0⟩ := t3 rfl
                subst hu0
                have hb : ∀ d' k', getBlk (setTok s d k (m0 + m)) d' k' = getBlk s d' k' := fun d' k' => getBlk_setTok d' k'
                have htk : getTok (setTok s d k (m0 + m)) d k = some (m0 + m) := by rw [getTok_setTok g1]; simp
                have hto : ∀ d' k' m', ¬ (d' = d ∧ k' = k) → getTok s d' k' = some m' → getTok (setTok s d k (m0 + m)) d' k' = some m' := fun d' k' m' hdk hk => by rw [getTok_setTok g1, if_neg hdk]; exact hk
                have hcur : ∀ m' l u, G.cur d k = some (m', l, u) → m' < m0 + m := fun m' l u hcu => by
                  rw [t1] at hcu
                  simp only [Option.some.injEq, Prod.mk.injEq] at hcu
                  omega
                by_cases hroom : m0 + m ≤ c
                · rcases g2 with ⟨ad, e1, e2, e3⟩ | ⟨g, c', sz, ty', csb, e1, e2, e3, e4, e5, e6, e7⟩
                  · injection e1 with _ e1 e1'
                    omega
                  · injection e1 with e1 _ e1'
                    subst e1 e1'
                    have hszz : sz = X.P.cellsOf e := by
                      have : m0 * sz = m0 * X.P.cellsOf e := by rw [← e6, ← hl0, w2]
                      exact Nat.eq_of_mul_eq_mul_left e2 this
                    subst hszz
                    have hly : vly.length = m * X.P.cellsOf e := by rw [v1, v2]
                    have hroom' : l0 + vly.length ≤ csb.size := by rw [e6, hly, e7, ← Nat.add_mul]; exact Nat.mul_le_mul_right _ hroom
                    have hst := run_storeCells_at X.P g l0 ty' vly 0 csb w e5 (by omega) v3
                    have hn := v6 w m (fun _ => rfl) (Nat.le_refl _)
                    rw [← v2, ← v1, List.take_length, ← hsz] at hn
                    have hrun := run_append_here (X := X) (w := w) (ty := ty) (base := some ⟨g, 0, none⟩) (n := m0) (c := c) (m := m) ht hu ht1 hu1 hdu h0 h1 hi (v5 w) hroom hn
                      (w' := w.setRow g (csb.toList.take l0 ++ vly ++ csb.toList.drop (l0 + vly.length)).toArray) (by
                        simp only [add_at, hsz, Nat.zero_add]
                        rw [← w2, hl0]
                        simpa using hst)
                    obtain ⟨r1, r2⟩ := rel_here (s' := setTok s d k (m0 + m)) hR hb htk hto t1 e4 e5 e6 e7 hm hroom hly
                    have hdl : (cs ++ ys).length = l0 + vly.length := by rw [List.length_append, v1, hl0]
                    refine ⟨_, _, _, hrun, r1, r2, .list (append_list (vx := vlx) (vy := vly) (own := some (d, k)) (lim := l0 + vly.length) (by simp [Gh.here]) (by rw [← List.length_append, hdl]; exact Nat.le_refl _) hyne hroom w1 v1
                      (fun j x hj => (w4 j x hj).ext r2) (fun j x hj => (v4 j x hj).ext r2) (fun j v hj => ?_)) ⟨m0 + m, _, _, Gh.here_cur _ _ _ _ _ _, Nat.le_refl _, fun _ => ⟨rfl, hdl⟩⟩⟩
                    rw [cell_of (setRow_heap w g csb _ ty' (0, 0) e5)]
                    simp only [List.getElem?_toArray]
                    have hlx : vlx.length = l0 := by rw [w1, hl0]
                    rw [List.getElem?_append] at hj
                    rw [List.append_assoc, List.getElem?_append]
                    have hmin : (csb.toList.take l0).length = l0 := by simp; omega
                    rw [hmin]
                    rw [hlx] at hj
                    split at hj
                    · rename_i hlt
                      rw [if_pos hlt, List.getElem?_take, if_pos hlt]
                      have hx := w6 w m0 (fun _ => rfl) (Nat.le_refl _)
                      have hcell := (w4 j (cs[j]'(by omega)) (by simp))
                      -- the old cells are read as they lie
                      cases hd with
                      | nil => omega
                      | list xs hn hg hl hne hcc hxx =>
                        have h1 := hcc j (cs[j]'(by omega)) (by simp)
                        rw [Nat.zero_add, cell_of e5] at h1
                        have hread : vlx[j]? = csb.toList[j]? := by
                          have hload : (Builtin.firstCells (X.P.cellsOf e) m0 (.slice (some ⟨g, 0, none⟩) m0 c)).run X.P w = .ok ((csb.toList.take (m0 * X.P.cellsOf e))).toArray w := by
                            have := run_loadCells_list (P := X.P) w ⟨g, 0, none⟩ (csb.toList.take (m0 * X.P.cellsOf e)) (fun j' v' hj' => by
                              rw [List.getElem?_take] at hj'
                              split at hj'
                              · rw [add_at, Nat.zero_add, cell_of e5]; simpa using hj'
                              · cases hj')
                            have hle : m0 * X.P.cellsOf e ≤ csb.size := by rw [← e6]; omega
                            simpa [Builtin.firstCells, Nat.min_eq_left hle] using this
                          rw [hload] at hx
                          injection hx with hx _
                          have hx := congrArg Array.toList hx
                          simp only at hx
                          rw [← w2, ← w1, List.take_length, w1, hl0] at hx
                          rw [← hx, List.getElem?_take, if_pos hlt]
                        rw [← hread]; exact hj
                    · rename_i hge
                      rw [if_neg hge, List.getElem?_append_left (List.getElem?_eq_some_iff.1 hj).1]
                      exact hj
                · exact new d k _ (by omega) hb htk hto hcur
              · cases hgrow
      · cases h
    · cases h
  · cases h
end
end Go.Proofs.YtnfdepafmmibaaaDoor

/-! Each operation does in Go what the machine says, calls too. -/
set_option linter.unusedVariables false
set_option linter.unusedSimpArgs false
namespace Go.Proofs.YtnfdepafmmibaaaDoor
open Go

/-- A function that may be called. -/
def Callable (P : Program) (f : FuncId) : Prop := ∃ fn, P.funcs[f]? = some fn ∧ fn.body.isNone = false ∧ (fn.name == "runtime.NumGoroutine") = false

/-- What the machine says of a call holds in Go. -/
structure RefC (X : Cx) (f : FuncId) (args : List AV) (s : St) (r : AV) (s' : St) : Prop where
  len : s'.length = s.length
  callable : Callable X.P f
  run : ∀ (G : Gh) (w : World) (vs : Array Value), Rel X G s w → ARel G w args vs →
    Calls X.P f vs w fun e w' => ∃ v G', e = .returned v ∧ Rel X G' s' w' ∧ Ext G w G' w' ∧ VRel G' w' r v
def CFOk (X : Cx) (cf : CallF) : Prop := ∀ f args s r s', cf f args s = some (r, s') → RefC X f args s r s'

/-- The same of a deferred call. -/
structure RefD (X : Cx) (f : FuncId) (args : List AV) (s s' : St) : Prop where
  len : s'.length = s.length
  callable : Callable X.P f
  run : ∀ (G : Gh) (w : World) (vs : Array Value), Rel X G s w → ARel G w args vs →
    CallsD X.P f vs .returning w fun e u w' => u = .returning ∧ ∃ v G', e = .returned v ∧ Rel X G' s' w' ∧ Ext G w G' w'
def DFOk (X : Cx) (df : CallF) : Prop := ∀ f args s r s', df f args s = some (r, s') → RefD X f args s s'

/-- One operation, done. -/
def StepOk (X : Cx) (G : Gh) (s' : St) (w : World) (a : Act) (o : Oper) (x : AV) : Prop :=
  ∀ (next : Act → World → Prop) (Q : Exit → Act → World → Prop),
    (∀ y w' G', Rel X G' s' w' → Ext G w G' w' → VRel G' w' x y → next (a.put o.dst y) w') → o.wp X.P a w next Q

section
variable {X : Cx} {G G' : Gh} {s s' : St} {w w' : World}

theorem OpOk.step {a : Act} {o : Oper} {x : AV} (h : OpOk X G s s' w a o x) : StepOk X G s' w a o x := by
  obtain ⟨y, w', G', h1, h2, h3, h4⟩ := h
  intro next Q hn
  unfold Oper.wp
  rw [h1]
  exact hn y w' G' h2 h3 h4

theorem run_callFunc {f : FuncId} (hc : Callable X.P f) (args : Array Value) (w : World) : (callFunc f args).run X.P w = .ok (.enter f args) w := by
  obtain ⟨fn, h1, h2, h3⟩ := hc
  unfold callFunc
  simp only [Sem.run_bind, run_program, Result.andThen_ok, h1, h3, h2, Bool.false_eq_true, if_false]
  rfl

theorem arel_append {xs ys : List AV} {vs us : Array Value} (h : ARel G w xs vs) (k : ARel G w ys us) : ARel G w (xs ++ ys) (vs ++ us) := by
  refine ⟨by simp [h.size, k.size], fun j x hj => ?_⟩
  rw [List.getElem?_append] at hj
  rw [Array.getD_eq_getD_getElem?, Array.getElem?_append, h.size]
  split at hj
  · rename_i hlt
    rw [if_pos hlt]
    simpa [Array.getD_eq_getD_getElem?] using h.at_ j x hj
  · rename_i hge
    rw [if_neg hge]
    simpa [Array.getD_eq_getD_getElem?] using k.at_ _ x hj

theorem callee_rel {e : Env} {a : Act} {c : Call} {f : FuncId} {args : List AV} (hR : Rel X G s w) (hE : EnvRel G w e a) (h : callee X e c = some (f, args)) :
    ∃ caps vs, ARel G w args (vs ++ caps) ∧ ∀ ty, (resolve a.eval c ty).run X.P w = .ok { target := .fn (.func f) caps, args := vs } w := by
  unfold callee at h
  split at h
  · rename_i fo hc
    split at h
    · rename_i g caps hg
      simp only [Option.some.injEq, Prod.mk.injEq] at h
      obtain ⟨rfl, rfl⟩ := h
      have hv := eva_rel hR hE fo
      rw [hg] at hv
      generalize hq : a.eval fo = q at hv
      cases hv with
      | fn hs hx =>
        rename_i cs
        refine ⟨cs, c.args.map a.eval, arel_append (arr_evs hR hE c.args) ⟨hs, hx⟩, fun ty => ?_⟩
        simp only [resolve, hc, hq, Deferred.ofValue]
        simp
    · cases h
  · cases h

theorem call_step {cf : CallF} (hcf : CFOk X cf) {e : Env} {a : Act} {o : Oper} {c : Call} {f : FuncId} {args : List AV} {x : AV} (hR : Rel X G s w) (hE : EnvRel G w e a) (ho : o.op = .call c) (hc : callee X e c = some (f, args)) (h : cf f args s = some (x, s')) :
    StepOk X G s' w a o x := by
  obtain ⟨caps, vs, h1, h2⟩ := callee_rel hR hE hc
  have hr := hcf f args s x s' h
  intro next Q hn
  unfold Oper.wp
  have hrun : (execOp a.eval o).run X.P w = .ok (.enter f (vs ++ caps)) w := by
    simp only [execOp, ho, Sem.run_bind, h2, Result.andThen_ok, invoke, run_callFunc hr.callable]
  rw [hrun, Oper.upon_enter]
  refine (hr.run G w _ hR h1).mono fun en w' hen => ?_
  obtain ⟨v, G', rfl, a1, a2, a3⟩ := hen
  exact hn v w' G' a1 a2 a3

theorem nilTok_rel {x : AV} {y : Value} (hR : Rel X G s w) (h : VRel G w x y) : ∃ G', Rel X G' (aNilTok x s).2 w ∧ Ext G w G' w ∧ VRel G' w (aNilTok x s).1 y := by
  unfold aNilTok
  split
  · rename_i f r
    obtain ⟨a, ha⟩ := full_val h
    obtain ⟨h1, h2⟩ := rel_tok hR a
    refine ⟨_, h1, h2, .list (by rw [ha]; exact .nil) ⟨0, 0, .slice a 0 0, by simp [Gh.tok], Nat.le_refl _, fun _ => ⟨ha, rfl⟩⟩⟩
  · exact ⟨G, hR, .refl G w, h⟩

theorem memOp_sound {cf : CallF} (hcf : CFOk X cf) {draw : Bool} {e : Env} {a : Act} {o : Oper} {x : AV} (hR : Rel X G s w) (hE : EnvRel G w e a) (hv : valOp X e s o.op = none) (h : memOp X cf draw e s o.op = some (x, s')) : StepOk X G s' w a o x := by
  have ev := fun z => eva_rel hR hE z
  obtain ⟨dst, op, ty, pos, after, guard⟩ := o
  simp only at h hv
  cases op with
  | assign z =>
    have same : OpOk X G s s w a { dst, op := .assign z, type := ty, pos, after, guard } (eva X e z) := ⟨a.eval z, w, G, rfl, hR, .refl G w, ev z⟩
    simp only [memOp] at h
    split at h
    · simp only [Option.some.injEq, Prod.mk.injEq] at h
      obtain ⟨rfl, rfl⟩ := h
      exact same.step
    · split at h
      · simp only [Option.some.injEq] at h
        obtain ⟨G', h1, h2, h3⟩ := nilTok_rel hR (ev (.const _))
        rw [h] at h1 h3
        exact OpOk.step (s := s) ⟨a.eval _, w, G', rfl, h1, h2, h3⟩
      · simp only [Option.some.injEq, Prod.mk.injEq] at h
        obtain ⟨rfl, rfl⟩ := h
        exact same.step
  | alloc t =>
    simp only [memOp] at h
    exact ((ok_alloc hR h).op rfl).step
  | box t z =>
    simp only [memOp] at h
    exact ((ok_box hR (ev z) h).op rfl).step
  | makeSlice t n c =>
    simp only [memOp] at h
    exact ((ok_make hR (ev n) (ev c) h).op rfl).step
  | store t z y =>
    simp only [memOp] at h
    obtain ⟨rfl, w', h1, h2, h3⟩ := ok_store hR (ev z) (ev y) h
    intro next Q hn
    unfold Oper.wp
    have : (execOp a.eval { dst, op := .store t z y, type := ty, pos, after, guard }).run X.P w = .ok .skip w' := by
      simp only [execOp, Sem.run_bind, h1, Result.andThen_ok, Sem.run_pure]
    rw [this]
    exact hn undef w' G h2 h3 .undef
  | call c =>
    have hc : ∀ cc, cc = c → callRes cf (callee X e cc) s = some (x, s') → StepOk X G s' w a { dst, op := .call c, type := ty, pos, after, guard } x := fun cc hcc hm => by
      subst hcc
      unfold callRes at hm
      split at hm
      · rename_i p hp
        exact call_step hcf hR hE rfl hp hm
      · cases hm
    obtain ⟨cl, args, argTypes⟩ := c
    cases cl with
    | value f => exact hc _ rfl (by simpa [memOp] using h)
    | invoke r m => exact hc _ rfl (by simpa [memOp] using h)
    | builtin b =>
      have hex : ∀ b, execOp a.eval { dst, op := .call { callee := .builtin b, args, argTypes }, type := ty, pos, after, guard } =
          builtin b argTypes ty (args.map fun | .const _ => true | _ => false) (args.map a.eval) := fun b => rfl
      have hno : ∀ b, callee X e { callee := .builtin b, args, argTypes } = none := fun b => rfl
      cases b with
      | append =>
        simp only [memOp] at h
        split at h
        · rename_i t z y u ht hz hy hu
          split at h
          · rename_i hd
            have hdu : ∃ du, X.P.underlying u = some du ∧ ((∃ e', du = .slice e') ∨ du = .string) := by
              unfold srcType at hd
              split at hd
              · rename_i e' he; exact ⟨_, he, .inl ⟨e', rfl⟩⟩
              · rename_i he; exact ⟨_, he, .inr rfl⟩
              · cases hd
            obtain ⟨du, hu1, hdu⟩ := hdu
            refine ((ok_append (ty := ty) (ts := argTypes) (args := args.map a.eval) hR (ev z) (ev y) h ht hu hu1 hdu (by rw [Array.getElem?_map, hz]; rfl) (by rw [Array.getElem?_map, hy]; rfl)).op ?_).step
            rw [hex]; rfl
          · cases h
        · cases h
      | copy =>
        simp only [memOp] at h
        split at h
        · rename_i t z y ht hz hy
          refine ((ok_copy (u := 0) (ty := ty) (ts := argTypes) (args := args.map a.eval) hR (ev z) (ev y) h ht (by rw [Array.getElem?_map, hz]; rfl) (by rw [Array.getElem?_map, hy]; rfl)).op ?_).step
          rw [hex]; rfl
        · cases h
      | _ => exact hc _ rfl (by simpa [memOp] using h)
  | _ => simp [memOp] at h

/-- An operation under its guard. -/
theorem opK_inv {α : Type} {cf : CallF} {draw : Bool} {ops : List Oper} {o : Oper} {e : Env} {k : AV → St → Option α} {out : α} (h : opK X cf draw ops o e s k = some out) :
    ∃ x s', k x s' = some out ∧ ((∃ c want, gate ops e o = some (c, want) ∧ offG c want = true ∧ x = .tuple [] ∧ s' = s) ∨
      ((gate ops e o = none ∨ ∃ b, gate ops e o = some (.v (.bool b), b)) ∧ ((valOp X e s o.op = some (some x) ∧ s' = s) ∨ (valOp X e s o.op = none ∧ memOp X cf draw e s o.op = some (x, s'))))) := by
  unfold opK at h
  split at h
  · rename_i r hr
    simp only [Option.bind_eq_some_iff] at h
    obtain ⟨x, hx, hk⟩ := h
    unfold gP at hx
    split at hx
    · rename_i hg
      subst hx
      exact ⟨x, s, hk, .inr ⟨.inl hg, .inl ⟨hr, rfl⟩⟩⟩
    · rename_i p hg
      obtain ⟨c, want⟩ := p
      simp only at hx
      split at hx
      · rename_i b
        split at hx
        · rename_i hb
          subst hx hb
          exact ⟨x, s, hk, .inr ⟨.inr ⟨b, hg⟩, .inl ⟨hr, rfl⟩⟩⟩
        · rename_i hb
          injection hx with hx
          subst hx
          exact ⟨.tuple [], s, hk, .inl ⟨_, want, hg, by simpa [offG] using hb, rfl, rfl⟩⟩
      · injection hx with hx
        subst hx
        exact ⟨.tuple [], s, hk, .inl ⟨_, want, hg, rfl, rfl, rfl⟩⟩
      · cases hx
  · rename_i hv
    unfold bind2 at h
    split at h
    · rename_i q hq
      obtain ⟨x, s'⟩ := q
      simp only at h
      unfold gS at hq
      split at hq
      · rename_i hg
        exact ⟨x, s', h, .inr ⟨.inl hg, .inr ⟨hv, hq⟩⟩⟩
      · rename_i p hg
        obtain ⟨c, want⟩ := p
        simp only at hq
        split at hq
        · rename_i b
          split at hq
          · rename_i hb
            subst hb
            exact ⟨x, s', h, .inr ⟨.inr ⟨b, hg⟩, .inr ⟨hv, hq⟩⟩⟩
          · rename_i hb
            simp only [Option.some.injEq, Prod.mk.injEq] at hq
            obtain ⟨rfl, rfl⟩ := hq
            exact ⟨.tuple [], s, h, .inl ⟨_, want, hg, by simpa [offG] using hb, rfl, rfl⟩⟩
        · simp only [Option.some.injEq, Prod.mk.injEq] at hq
          obtain ⟨rfl, rfl⟩ := hq
          exact ⟨.tuple [], s, h, .inl ⟨_, want, hg, rfl, rfl, rfl⟩⟩
        · cases hq
    · cases h

theorem vrel_skip : VRel G w (.tuple []) undef := .tuple (cs := #[]) rfl (fun j x h => by simp at h)

theorem gate_wanted {ops : Array Oper} {e : Env} {a : Act} {o : Oper} (hE : EnvRel G w e a) :
    (gate ops.toList e o = none → Region.wanted o (yielded ops a.tmps) = true) ∧ (∀ b, gate ops.toList e o = some (.v (.bool b), b) → Region.wanted o (yielded ops a.tmps) = true) ∧
    ∀ c want, gate ops.toList e o = some (c, want) → offG c want = true → Region.wanted o (yielded ops a.tmps) = false := by
  unfold gate Region.wanted
  cases hg : o.guard with
  | none => exact ⟨fun _ => rfl, fun b h => (by cases h), fun c want h => (by cases h)⟩
  | some p =>
    obtain ⟨j, want'⟩ := p
    have bool : ∀ b, (match (ops.toList[j]?).bind (·.dst) with | some t => e.tmps.getD t .undef | none => .undef) = .v (.bool b) → yielded ops a.tmps j = some b := fun b h1 => by
      have hj : ops.toList[j]? = ops[j]? := by simp
      rw [hj] at h1
      cases hd : (ops[j]?).bind (·.dst) with
      | none => rw [hd] at h1; cases h1
      | some t =>
        rw [hd] at h1
        simp only at h1
        have hs := hE.slot t
        rw [h1] at hs
        generalize hq : a.tmps.getD t undef = q at hs
        cases hs
        have ht : a.tmps[t]? = some (.bool b) := by
          rw [Array.getD_eq_getD_getElem?] at hq
          cases hh : a.tmps[t]? with
          | none => rw [hh] at hq; simp [undef] at hq
          | some u => rw [hh] at hq; simp at hq; rw [hq]
        simp only [yielded, hd, Option.bind_some, ht]
    have gone : (match (ops.toList[j]?).bind (·.dst) with | some t => e.tmps.getD t .undef | none => .undef) = .tuple [] → yielded ops a.tmps j = none := fun h1 => by
      have hj : ops.toList[j]? = ops[j]? := by simp
      rw [hj] at h1
      cases hd : (ops[j]?).bind (·.dst) with
      | none => rw [hd] at h1; cases h1
      | some t =>
        rw [hd] at h1
        simp only at h1
        have hs := hE.slot t
        rw [h1] at hs
        generalize hq : a.tmps.getD t undef = q at hs
        cases hs with
        | tuple hsz _ =>
          rename_i cs
          simp only [yielded, hd, Option.bind_some]
          rw [Array.getD_eq_getD_getElem?] at hq
          cases hh : a.tmps[t]? with
          | none => rfl
          | some u => rw [hh] at hq; simp at hq; rw [hq]
    refine ⟨fun h => (by cases h), fun b h => ?_, fun c want h ho => ?_⟩
    · simp only [Option.some.injEq, Prod.mk.injEq] at h
      obtain ⟨h1, rfl⟩ := h
      show (yielded ops a.tmps j == some want') = true
      rw [bool _ h1]; cases want' <;> rfl
    · simp only [Option.some.injEq, Prod.mk.injEq] at h
      obtain ⟨h1, rfl⟩ := h
      show (yielded ops a.tmps j == some want') = false
      unfold offG at ho
      split at ho
      · rename_i b
        rw [bool b h1]
        cases b <;> cases want' <;> simp at ho ⊢
      · rw [gone h1]; cases want' <;> rfl
      · cases ho
end
end Go.Proofs.YtnfdepafmmibaaaDoor

/-! Regions in the order of the text, and what a frame leaves behind. -/
set_option linter.unusedVariables false
set_option linter.unusedSimpArgs false
namespace Go.Proofs.YtnfdepafmmibaaaDoor
open Go

section
variable {X : Cx} {G G' : Gh} {s s' : St} {w w' : World}

theorem setBlk_length (s : St) (d k : Nat) (b : Blk) : (setBlk s d k b).length = s.length := by
  unfold setBlk; split
  · exact setFr_length _ _ _
  · rfl
theorem setTok_length (s : St) (d k n : Nat) : (setTok s d k n).length = s.length := by
  unfold setTok; split
  · exact setFr_length _ _ _
  · rfl
theorem newBlk_length {t : TypeId} {cs : List AV} {x : AV} (h : newBlk t cs s = some (x, s')) : s'.length = s.length := by
  unfold newBlk at h
  split at h
  · cases h
  · simp only [Option.some.injEq, Prod.mk.injEq] at h
    rw [← h.2]; rfl

theorem memOp_length {cf : CallF} (hcf : CFOk X cf) {draw : Bool} {e : Env} {op : Op} {x : AV} (h : memOp X cf draw e s op = some (x, s')) : s'.length = s.length := by
  have hnt : ∀ x : AV, (aNilTok x s).2.length = s.length := fun x => by unfold aNilTok; split <;> rfl
  have hcall : ∀ p, callRes cf p s = some (x, s') → s'.length = s.length := fun p h => by
    unfold callRes at h
    split at h
    · exact (hcf _ _ _ _ _ h).len
    · cases h
  unfold memOp at h
  split at h
  · split at h
    · simp only [Option.some.injEq, Prod.mk.injEq] at h; rw [h.2]
    · split at h
      · simp only [Option.some.injEq] at h
        have := hnt (eva X e (.const ‹_›))
        rw [h] at this; exact this
      · simp only [Option.some.injEq, Prod.mk.injEq] at h; rw [h.2]
  · unfold aAlloc at h
    split at h
    · exact newBlk_length h
    · cases h
  · unfold aBox at h
    split at h
    · exact newBlk_length h
    · cases h
  · unfold aMake at h
    split at h
    · split at h
      · split at h
        · simp only [Option.some.injEq, Prod.mk.injEq] at h; rw [← h.2]; rfl
        · cases h
      · cases h
    · cases h
  · unfold aStore at h
    split at h
    · split at h
      · split at h
        · simp only [Option.some.injEq, Prod.mk.injEq] at h; rw [← h.2]; exact setBlk_length _ _ _ _
        · cases h
      · cases h
    · cases h
  · split at h
    · split at h
      · unfold aAppend at h
        split at h
        · split at h
          · split at h
            · split at h
              · simp only [Option.some.injEq, Prod.mk.injEq] at h; rw [← h.2]
              · simp only [Option.map_eq_some_iff] at h
                obtain ⟨⟨tg, s1⟩, hg, hx⟩ := h
                simp only [Prod.mk.injEq] at hx
                rw [← hx.2]
                unfold growTok at hg
                split at hg
                · cases hg
                · split at hg
                  · cases hg
                  · simp only [Option.some.injEq, Prod.mk.injEq] at hg; rw [← hg.2]; rfl
                · split at hg
                  · split at hg
                    · simp only [Option.some.injEq, Prod.mk.injEq] at hg; rw [← hg.2]; exact setTok_length _ _ _ _
                    · cases hg
                  · cases hg
            · cases h
          · cases h
        · cases h
      · cases h
    · cases h
  · split at h
    · unfold aCopy at h
      split at h
      · split at h
        · split at h
          · simp only [Option.some.injEq, Prod.mk.injEq] at h; rw [← h.2]; exact setBlk_length _ _ _ _
          · cases h
        · cases h
      · cases h
    · cases h
  · exact hcall _ h
  · cases h

theorem opK_length {cf : CallF} (hcf : CFOk X cf) {draw : Bool} {ops : List Oper} {o : Oper} {e : Env} {x : AV}
    (h : (∃ c want, gate ops e o = some (c, want) ∧ offG c want = true ∧ x = .tuple [] ∧ s' = s) ∨
      ((gate ops e o = none ∨ ∃ b, gate ops e o = some (.v (.bool b), b)) ∧ ((valOp X e s o.op = some (some x) ∧ s' = s) ∨ (valOp X e s o.op = none ∧ memOp X cf draw e s o.op = some (x, s'))))) : s'.length = s.length := by
  rcases h with ⟨_, _, _, _, _, rfl⟩ | ⟨_, ⟨_, rfl⟩ | ⟨_, hm⟩⟩
  · rfl
  · rfl
  · exact memOp_length hcf hm

theorem drop_get {α : Type} {l r : List α} {o : α} {i : Nat} (h : l.drop i = o :: r) : l[i]? = some o ∧ l.drop (i + 1) = r := by
  refine ⟨?_, ?_⟩
  · have := congrArg List.head? h
    simpa [List.head?_drop] using this
  · have := congrArg List.tail h
    simpa [List.tail_drop] using this

theorem put_ds (e : Env) (d : Option Tmp) (x : AV) : (e.put d x).ds = e.ds := by cases d <;> rfl

theorem aOps_sound {α : Type} {cf : CallF} (hcf : CFOk X cf) {ops : Array Oper} : ∀ (l : List Oper) (i : Nat) (e : Env) (s : St) (k : Env → St → Option α) (out : α), ops.toList.drop i = l → aOps X cf ops.toList l e s k = some out →
    ∃ e' s', k e' s' = some out ∧ s'.length = s.length ∧ ∀ (G : Gh) (w : World) (a : Act) (Q : Exit → Act → World → Prop), Rel X G s w → EnvRel G w e a →
      (∀ G' w' a', Rel X G' s' w' → Ext G w G' w' → EnvRel G' w' e' a' → Q .normal a' w') → wpOps X.P ops Q (List.range' i l.length) a w := by
  intro l
  induction l with
  | nil =>
    intro i e s k out _ h
    exact ⟨e, s, h, rfl, fun G w a Q hR hE hQ => hQ G w a hR (.refl G w) hE⟩
  | cons o r ih =>
    intro i e s k out hl h
    obtain ⟨ho, hr⟩ := drop_get hl
    have ho' : ops[i]? = some o := by simpa using ho
    have hsucc : List.range' i (o :: r).length = i :: List.range' (i + 1) r.length := by simp [List.range'_succ]
    -- an operation that is no 'defer'
    have plain : opK X cf false ops.toList o e s (fun x s' => aOps X cf ops.toList r (e.put o.dst x) s' k) = some out → ∃ e' s', k e' s' = some out ∧ s'.length = s.length ∧ ∀ (G : Gh) (w : World) (a : Act) (Q : Exit → Act → World → Prop), Rel X G s w → EnvRel G w e a →
      (∀ G' w' a', Rel X G' s' w' → Ext G w G' w' → EnvRel G' w' e' a' → Q .normal a' w') → wpOps X.P ops Q (List.range' i (o :: r).length) a w := fun h => by
      obtain ⟨x, s1, h1, h2⟩ := opK_inv h
      have hlen := opK_length hcf h2
      obtain ⟨e', s', h3, h3', h4⟩ := ih (i + 1) _ _ _ _ hr h1
      refine ⟨e', s', h3, h3'.trans hlen, fun G w a Q hR hE hQ => ?_⟩
      rw [hsucc, wpOps]
      simp only [ho']
      obtain ⟨gw1, gw2, gw3⟩ := gate_wanted (ops := ops) (o := o) hE
      rcases h2 with ⟨b, want, hg, hb, rfl, rfl⟩ | ⟨hg, hop⟩
      · rw [gw3 b want hg hb]
        rw [if_neg (by decide)]
        exact h4 G w _ Q hR (hE.put vrel_skip o.dst) hQ
      · have hw : Region.wanted o (yielded ops a.tmps) = true := by
          rcases hg with hg | ⟨b, hg⟩
          · exact gw1 hg
          · exact gw2 b hg
        rw [if_pos hw]
        refine .inl ?_
        have hstep : StepOk X G s1 w a o x := by
          rcases hop with ⟨hv, rfl⟩ | ⟨hv, hm⟩
          · exact (valOp_sound hR hE hv).step
          · exact memOp_sound hcf hR hE hv hm
        exact hstep _ Q fun y w1 G1 r1 r2 r3 => h4 G1 w1 _ Q r1 ((hE.ext r2).put r3 o.dst) fun G' w' a' q1 q2 q3 => hQ G' w' a' q1 (r2.trans q2) q3
    simp only [aOps] at h
    split at h
    · rename_i c hop hgd
      simp only [Option.bind_eq_some_iff] at h
      obtain ⟨⟨f, args⟩, hc, h⟩ := h
      obtain ⟨e', s', h3, h3', h4⟩ := ih (i + 1) _ _ _ _ hr h
      refine ⟨e', s', h3, h3', fun G w a Q hR hE hQ => ?_⟩
      rw [hsucc, wpOps]
      simp only [ho']
      rw [if_pos (by simp [Region.wanted, hgd])]
      refine .inl ?_
      obtain ⟨caps, vs, c1, c2⟩ := callee_rel hR hE hc
      unfold Oper.wp
      have hrun : (execOp a.eval o).run X.P w = .ok (.defer { target := .fn (.func f) caps, args := vs }) w := by
        simp only [execOp, hop, Sem.run_bind, c2, Result.andThen_ok, Sem.run_pure]
      rw [hrun, Oper.upon_defer]
      refine h4 G w _ Q hR ?_ hQ
      have hp := hE.put (x := .undef) (y := undef) .undef o.dst
      have hads : ∀ (a : Act) (d : Option Tmp) (v : Value), (a.put d v).defers = a.defers := fun a d v => by cases d <;> rfl
      have htm : ∀ (ds : List Deferred), (({ a with defers := ds } : Act).put o.dst undef).tmps = (a.put o.dst undef).tmps := fun ds => by cases o.dst <;> rfl
      refine ⟨by rw [htm]; exact hp.size, fun t x hx => by rw [htm]; exact hp.tmp t x hx, by rw [hads]; simp [hE.dlen, put_ds], fun j p hj => ?_⟩
      rw [hads]
      cases j with
      | zero =>
        simp at hj
        subst hj
        exact ⟨_, rfl, .inr ⟨caps, vs, rfl, c1⟩⟩
      | succ j =>
        simp only [List.getElem?_cons_succ, put_ds] at hj ⊢
        exact hE.dat j p hj
    · exact plain h

/-! ### Giving up the newest blocks -/
/-- Block (d, k) stays: it lies below depth D, or among the first nb of depth D. -/
def stays (D nb d k : Nat) : Prop := d < D ∨ d = D ∧ k < nb
open Classical in
noncomputable def Gh.cut (G : Gh) (D nb nt : Nat) (sz : Nat → Nat) : Gh where
  st i := match G.st i with
    | .wr d k => if stays D nb d k then .wr d k else .imm (sz i) none
    | .imm l (some o) => if stays D nt o.1 o.2 then .imm l (some o) else .imm l none
    | x => x
  bl d k := if stays D nb d k then G.bl d k else none
  cur d k := if stays D nt d k then G.cur d k else none
  no d k := stays D nb d k ∧ G.no d k

theorem DRel.st_mono {st st' : Nat → Stt} {x : DV} {y : Value} (hst : ∀ g lim own, st g = .imm lim own → ∃ own', st' g = .imm lim own') (h : DRel st w x y) : DRel st' w x y := by
  induction h with
  | v h => exact .v h
  | nil => exact .nil
  | list xs hn hg hl hne hc hx ih =>
    obtain ⟨o, ho⟩ := hst _ _ _ hg
    exact .list xs hn ho hl hne hc ih

theorem cut_imm {D nb nt : Nat} {sz : Nat → Nat} : ∀ g lim own, G.st g = .imm lim own → ∃ own', (G.cut D nb nt sz).st g = .imm lim own' := by
  intro g lim own h
  cases own with
  | none => exact ⟨none, by simp only [Gh.cut, h]⟩
  | some o =>
    by_cases hs : stays D nt o.1 o.2
    · exact ⟨some o, by simp only [Gh.cut, h]; rw [if_pos hs]⟩
    · exact ⟨none, by simp only [Gh.cut, h]; rw [if_neg hs]⟩

/-- What blocks a value may name, if it is to be kept. -/
def okIn (D nb : Nat) : AV → Prop
  | .ptr d k _ => stays D nb d k
  | .msl d k _ _ _ => stays D nb d k
  | .fn _ caps => ∀ x ∈ caps, (∃ d k o, x = .ptr d k o ∧ stays D nb d k) ∨ ∃ y, x = .v y
  | .agg cs => ∀ x ∈ cs, (∃ y, x = .v y) ∨ (∃ n cs, x = .list .none n cs) ∨ (∃ n cs, x = .list .full n cs) ∨ x = .undef
  | .tuple _ => False
  | _ => True

theorem VRel.cut {D nb nt : Nat} {sz : Nat → Nat} {x : AV} {y : Value} (h : VRel G w x y) (hx : okIn D nb x) (htk : ∀ d k n cs c, x = .list (.own d k) n cs → G.cur d k = some c → stays D nt d k) : VRel (G.cut D nb nt sz) w x y := by
  have hd : ∀ {d : DV} {y : Value}, DRel G.st w d y → DRel (G.cut D nb nt sz).st w d y := fun h => h.st_mono cut_imm
  have hbl : ∀ {d k g : Nat}, G.bl d k = some g → stays D nb d k → (G.cut D nb nt sz).bl d k = some g := fun h hs => by simp only [Gh.cut]; rw [if_pos hs]; exact h
  have simple : ∀ {x : AV} {y : Value}, VRel G w x y → ((∃ y, x = .v y) ∨ (∃ n cs, x = .list .none n cs) ∨ (∃ n cs, x = .list .full n cs) ∨ x = .undef) → VRel (G.cut D nb nt sz) w x y := fun {x y} h hs => by
    rcases hs with ⟨z, rfl⟩ | ⟨n, cs, rfl⟩ | ⟨n, cs, rfl⟩ | rfl
    · cases h with | v h => exact .v h
    · cases h with | list h _ => exact .list (hd h) trivial
    · cases h with | list h ht => exact .list (hd h) ht
    · exact .undef
  cases h with
  | undef => exact .undef
  | v h => exact .v h
  | list h ht =>
    rename_i tag n cells
    refine .list (hd h) ?_
    cases tag with
    | none => trivial
    | full => exact ht
    | own d k =>
      obtain ⟨m, l, u, a, b⟩ := ht
      have hx' : stays D nt d k := htk d k n cells _ rfl a
      exact ⟨m, l, u, by simp only [Gh.cut]; rw [if_pos hx']; exact a, b⟩
  | ptr h => exact .ptr (hbl h hx)
  | lptr hne h => exact .lptr hne (hd h)
  | msl h hn => exact .msl (hbl h hx) hn
  | fn hs h =>
    refine .fn hs fun j z hj => ?_
    have hz := h j z hj
    generalize cs_eq : Array.getD _ j Go.undef = q at hz ⊢
    rcases hx z (List.mem_of_getElem? hj) with ⟨d, k, o, rfl, hst⟩ | ⟨q, rfl⟩
    · cases hz with | ptr h => exact .ptr (hbl h hst)
    · cases hz with | v h => exact .v h
  | agg h1 hs h => exact .agg h1 hs fun j z hj => simple (h j z hj) (hx z (List.mem_of_getElem? hj))
  | tuple hs h => exact hx.elim

theorem fit_okIn {D nb d k tk : Nat} {x : AV} (h : fit d k tk x = x) (hk : stays D nb d k) : okIn D nb x := by
  unfold stays at hk
  have gen : fit d k tk x = (if refOk d k x = true then x else .undef) → x ≠ .undef → refOk d k x = true := fun he hu => by
    by_cases hr : refOk d k x = true
    · exact hr
    · rw [if_neg hr] at he; rw [he] at h; exact absurd h.symm hu
  cases x with
  | ptr d' k' o =>
    have := gen rfl (by simp)
    simp only [refOk, decide_eq_true_eq] at this
    unfold okIn stays; omega
  | msl d' k' o n c =>
    have := gen rfl (by simp)
    simp only [refOk, decide_eq_true_eq] at this
    unfold okIn stays; omega
  | fn f caps =>
    have := gen rfl (by simp)
    simp only [refOk, List.all_eq_true] at this
    intro x hx
    have := this x hx
    cases x with
    | ptr d' k' o =>
      simp only [capOk, decide_eq_true_eq] at this
      exact .inl ⟨d', k', o, rfl, by unfold stays; omega⟩
    | v y => exact .inr ⟨y, rfl⟩
    | _ => cases this
  | agg cs => simp [fit, refOk] at h
  | tuple cs => simp [fit, refOk] at h
  | _ => trivial
theorem fit_tok {D nt d k tk d' k' n : Nat} {cs : List DV} (h : fit d k tk (.list (.own d' k') n cs) = .list (.own d' k') n cs) (hd : d < D ∨ d = D ∧ tk ≤ nt) : stays D nt d' k' := by
  simp only [fit] at h
  split at h
  · unfold stays; omega
  · injection h with h; cases h

theorem rel_cut (hR : Rel X G s w) (D nb nt : Nat) (sz : Nat → Nat) (s₂ : St) (hblk : ∀ d k, stays D nb d k → getBlk s₂ d k = getBlk s d k) (hblk' : ∀ d k b, getBlk s₂ d k = some b → getBlk s d k = some b)
    (htok : ∀ d k c, stays D nt d k → G.cur d k = some c → getTok s₂ d k = getTok s d k)
    (hok : ∀ d k b, stays D nb d k → getBlk s d k = some b → (d < D ∨ d = D ∧ b.tk ≤ nt) ∨ (∀ d' k' c, G.cur d' k' = some c → stays D nt d' k')) : Rel X (G.cut D nb nt sz) s₂ w where
  st d k g := by
    by_cases hs : stays D nb d k
    · simp only [Gh.cut]
      rw [if_pos hs, hR.st d k g]
      constructor
      · intro h; rw [h]; simp only; rw [if_pos hs]
      · intro h
        cases hst : G.st g with
        | wr d' k' =>
          rw [hst] at h
          simp only at h
          split at h
          · exact h
          · cases h
        | imm l o =>
          rw [hst] at h
          cases o with
          | none => cases h
          | some o => simp only at h; split at h <;> cases h
        | free => rw [hst] at h; cases h
    · simp only [Gh.cut]
      rw [if_neg hs]
      constructor
      · intro h; cases h
      · intro h
        cases hst : G.st g with
        | wr d' k' =>
          rw [hst] at h
          simp only at h
          split at h
          · rename_i hs'
            injection h with h1 h2
            subst h1 h2
            exact absurd hs' hs
          · cases h
        | imm l o =>
          rw [hst] at h
          cases o with
          | none => cases h
          | some o => simp only at h; split at h <;> cases h
        | free => rw [hst] at h; cases h
  blk d k g h := by
    simp only [Gh.cut] at h
    split at h
    · rename_i hs
      obtain ⟨b, cs, h1, h2, h3, h4, h5⟩ := hR.blk d k g h
      refine ⟨b, cs, by rw [hblk d k hs]; exact h1, h2, h3, h4, fun j x hj => ?_⟩
      have hf := hR.fit d k b h1 x (List.mem_of_getElem? hj)
      refine (h5 j x hj).cut (fit_okIn hf hs) fun d' k' n cs' c hx hc => ?_
      subst hx
      rcases hok d k b hs h1 with hd | hall
      · exact fit_tok hf hd
      · exact hall d' k' c hc
    · cases h
  fit d k b h := hR.fit d k b (hblk' d k b h)
  tok d k m l u h := by
    simp only [Gh.cut] at h
    split at h
    · rename_i hs
      obtain ⟨h1, h2⟩ := hR.tok d k m l u h
      refine ⟨by rw [htok d k _ hs h]; exact h1, h2.frame' fun g l hg => ⟨?_, rfl⟩⟩
      simp only [Gh.cut, hg]
      rw [if_pos hs]
    · cases h
  glob g := by
    refine (hR.glob g).cut ?_ ?_
    · rcases X.glOk g with h | ⟨cs, o, h⟩ <;> rw [h] <;> trivial
    · rcases X.glOk g with h | ⟨cs, o, h⟩ <;> rw [h] <;> intro d k n cs' c hx <;> cases hx
  free g hg := by simp only [Gh.cut, hR.free g hg]
  no d k h := by
    obtain ⟨h1, h2⟩ := h
    obtain ⟨h3, b, h4⟩ := hR.no d k h2
    exact ⟨by simp only [Gh.cut, h3]; split <;> rfl, b, by rw [hblk d k h1]; exact h4⟩

/-- What stayed is as it was for whoever began with it. -/
theorem Ext.cut {D nb nt : Nat} {sz : Nat → Nat} (h : Ext G w G' w') (hb : ∀ d k g, G.bl d k = some g → stays D nb d k) (hc : ∀ d k c, G.cur d k = some c → stays D nt d k) (hn : ∀ d k, G.no d k → stays D nb d k) : Ext G w (G'.cut D nb nt sz) w' where
  os := h.os
  tape := h.tape
  output := h.output
  size := h.size
  free g hg hf := by
    obtain ⟨a, b⟩ := h.free g hg hf
    exact ⟨a, by simp only [Gh.cut, b]⟩
  bl d k g hg := by simp only [Gh.cut]; rw [if_pos (hb d k g hg)]; exact h.bl d k g hg
  imm g lim own hg := by
    obtain ⟨l', o', a, b, c, d⟩ := h.imm g lim own hg
    obtain ⟨o2, ho2⟩ := cut_imm (G := G') (D := D) (nb := nb) (nt := nt) (sz := sz) g l' o' a
    refine ⟨l', o2, ho2, b, c, fun ho => ⟨(d ho).1, ?_⟩⟩
    have := (d ho).2
    subst this
    simp only [Gh.cut, a] at ho2
    injection ho2 with _ ho2
    exact ho2.symm
  cur d k m l u hcu := by
    obtain ⟨m', l', u', a, b, c⟩ := h.cur d k m l u hcu
    exact ⟨m', l', u', by simp only [Gh.cut]; rw [if_pos (hc d k _ hcu)]; exact a, b, c⟩
  no d k h1 := ⟨hn d k h1, h.no d k h1⟩

theorem fn_all_ok {D nb : Nat} {caps : List AV} {p : Nat → Nat → Bool} (hp : ∀ d k, p d k = true → stays D nb d k) (h : caps.all (capOk p) = true) :
    ∀ x ∈ caps, (∃ d k o, x = .ptr d k o ∧ stays D nb d k) ∨ ∃ y, x = .v y := by
  intro x hx
  have := List.all_eq_true.1 h x hx
  cases x with
  | ptr d k o => exact .inl ⟨d, k, o, rfl, hp d k this⟩
  | v y => exact .inr ⟨y, rfl⟩
  | _ => cases this

theorem agg_strip {xs : List AV} {y : Value} (h : VRel G w (.agg xs) y) : VRel G w (.agg (xs.map bareCell)) y := by
  cases h with
  | agg h1 hs hx =>
    refine .agg h1 (by simpa using hs) fun j z hj => ?_
    rw [List.getElem?_map] at hj
    cases hq : xs[j]? with
    | none => rw [hq] at hj; simp at hj
    | some q =>
      rw [hq] at hj
      simp only [Option.map_some, Option.some.injEq] at hj
      have := hx j q hq
      subst hj
      cases q with
      | v y => exact this
      | list tag n cs => cases this with | list h _ => exact .list h trivial
      | _ => exact .undef
theorem agg_strip_ok (D nb : Nat) (xs : List AV) : okIn D nb (.agg (xs.map bareCell)) := by
  intro x hx
  obtain ⟨q, _, rfl⟩ := List.mem_map.1 hx
  cases q with
  | v y => exact .inl ⟨y, rfl⟩
  | list tag n cs => exact .inr (.inl ⟨n, cs, rfl⟩)
  | _ => exact .inr (.inr (.inr rfl))

theorem keep_rel {D nb nt : Nat} {sz : Nat → Nat} {x : AV} {y : Value} (h : VRel G w x y) : VRel (G.cut D nb nt sz) w (keep D nb nt x) y := by
  have nt' : ∀ x : AV, (∀ d k n cs, x ≠ .list (.own d k) n cs) → ∀ d k n cs c, x = .list (.own d k) n cs → G.cur d k = some c → stays D nt d k := fun x hx d k n cs c h => absurd h (hx d k n cs)
  cases x with
  | list tag n cs =>
    cases tag with
    | own d k =>
      simp only [keep]
      split
      · rename_i hc
        exact h.cut trivial fun d' k' n' cs' c hx _ => by cases hx; exact hc
      · cases h with | list h _ => exact .list (h.st_mono cut_imm) trivial
    | none => exact h.cut trivial (nt' _ (by simp))
    | full => exact h.cut trivial (nt' _ (by simp))
  | ptr d k o =>
    simp only [keep]
    split
    · rename_i hc; exact h.cut hc (nt' _ (by simp))
    · exact .undef
  | msl d k o n c =>
    simp only [keep]
    split
    · rename_i hc; exact h.cut hc (nt' _ (by simp))
    · exact .undef
  | fn f caps =>
    simp only [keep]
    split
    · rename_i hc
      exact h.cut (fn_all_ok (fun d k hp => by simpa [stays] using hp) hc) (nt' _ (by simp))
    · exact .undef
  | agg cs => exact (agg_strip h).cut (agg_strip_ok D nb cs) (nt' _ (by simp))
  | tuple cs => exact .undef
  | undef => exact .undef
  | v y => exact h.cut trivial (nt' _ (by simp))
  | lptr cs o => exact h.cut trivial (nt' _ (by simp))
end
end Go.Proofs.YtnfdepafmmibaaaDoor

/-! Statements, loops and the end of a call do in Go what the machine says. -/
set_option linter.unusedVariables false
set_option linter.unusedSimpArgs false
namespace Go.Proofs.YtnfdepafmmibaaaDoor
open Go

def AX.ex : AX → Exit
  | .normal => .normal
  | .exit id => .exit id
  | .ret => .ret

/-- A statement that comes from (e, s) to (e', s'). -/
structure CodeOk (X : Cx) (c : Code) (e : Env) (s : St) (x : AX) (e' : Env) (s' : St) : Prop where
  len : s'.length = s.length
  run : ∀ (G : Gh) (w : World) (a : Act) (Q : Exit → Act → World → Prop), Rel X G s w → EnvRel G w e a →
    (∀ G' w' a', Rel X G' s' w' → Ext G w G' w' → EnvRel G' w' e' a' → Q x.ex a' w') → c.wp X.P Q a w

def RegionsOk (X : Cx) (cf : CallF) : Prop := ∀ {α : Type} (id : Nat) (ops : Array Oper) (e : Env) (s : St) (k : Env → St → Option α) (out : α), drawOk ops.toList = true →
  aOpsD X cf ops.toList (masks ops.toList []) (orderD ops.toList) [] [] e s k = some out → ∃ e' s', k e' s' = some out ∧ CodeOk X (.region id ops true) e s .normal e' s'

section
variable {X : Cx} {G G' : Gh} {s s' : St} {w w' : World}


/-! ### Statements -/
theorem region_ok {α : Type} {cf : CallF} (hcf : CFOk X cf) (id : Nat) (ops : Array Oper) {e : Env} {s : St} {k : Env → St → Option α} {out : α} (h : aOps X cf ops.toList ops.toList e s k = some out) :
    ∃ e' s', k e' s' = some out ∧ CodeOk X (.region id ops false) e s .normal e' s' := by
  obtain ⟨e', s', h1, h2, h3⟩ := aOps_sound hcf (ops := ops) ops.toList 0 e s k out rfl h
  refine ⟨e', s', h1, h2, fun G w a Q hR hE hQ => wp_region ?_⟩
  have := h3 G w a Q hR hE hQ
  rw [List.range_eq_range']
  simpa using this

theorem killE_rel {D nb nt : Nat} {sz : Nat → Nat} {e : Env} {a : Act} (lv : Option (List Nat)) (hE : EnvRel G w e a) (hds : e.ds = []) : EnvRel (G.cut D nb nt sz) w (killE lv (keep D nb nt) e) a := by
  refine ⟨by simp [killE, hE.size], fun t x hx => ?_, hE.dlen, fun i p hi => by simp [killE, hds] at hi⟩
  simp only [killE, List.getElem?_map, List.getElem?_zipIdx] at hx
  cases hq : e.tmps[t]? with
  | none => rw [hq] at hx; simp at hx
  | some q =>
    rw [hq] at hx
    simp only [Option.map_some, Option.some.injEq] at hx
    have := hE.tmp t q hq
    subst hx
    cases lv with
    | none => exact keep_rel this
    | some l =>
      simp only
      split
      · exact keep_rel this
      · exact .undef
theorem killE_id {e : Env} {a : Act} (lv : Option (List Nat)) (hE : EnvRel G w e a) : EnvRel G w (killE lv (fun x => x) e) a := by
  refine ⟨by simp [killE, hE.size], fun t x hx => ?_, hE.dlen, hE.dat⟩
  simp only [killE, List.getElem?_map, List.getElem?_zipIdx] at hx
  cases hq : e.tmps[t]? with
  | none => rw [hq] at hx; simp at hx
  | some q =>
    rw [hq] at hx
    simp only [Option.map_some, Option.some.injEq] at hx
    have := hE.tmp t q hq
    subst hx
    cases lv with
    | none => exact this
    | some l =>
      simp only
      split
      · exact this
      · exact .undef

theorem getTok_lt {d k m : Nat} (h : getTok s d k = some m) : d < s.length := by
  unfold getTok at h
  cases hf : getFr s d with
  | none => rw [hf] at h; cases h
  | some f => exact getFr_lt hf
theorem getBlk_lt {d k : Nat} {b : Blk} (h : getBlk s d k = some b) : d < s.length := by
  unfold getBlk at h
  cases hf : getFr s d with
  | none => rw [hf] at h; cases h
  | some f => exact getFr_lt hf

theorem rel_trim (hR : Rel X G s w) (nb nt : Nat) (sz : Nat → Nat) : Rel X (G.cut (depth s) nb (rightsLeft nb nt s) sz) (trim nb nt s) w := by
  cases s with
  | nil =>
    refine rel_cut hR _ _ _ sz [] (fun d k _ => rfl) (fun d k b h => h) (fun d k c _ _ => rfl) (fun d k b _ h => ?_)
    have := getBlk_lt h
    simp at this
  | cons f r =>
    have hD : depth (f :: r) = r.length := by simp [depth]
    rw [hD]
    refine rel_cut hR _ _ _ sz _ (fun d k hs => ?_) (fun d k b h => ?_) (fun d k c hs hc => ?_) (fun d k b hs h => ?_)
    · simp only [trim, getBlk_cons]
      split
      · rename_i hd
        rcases hs with hs | hs
        · omega
        · rw [List.getElem?_take, if_pos hs.2]
      · rfl
    · simp only [trim, getBlk_cons] at h ⊢
      split
      · rename_i hd
        rw [if_pos hd] at h
        rw [List.getElem?_take] at h
        split at h
        · exact h
        · cases h
      · rename_i hd
        rw [if_neg hd] at h
        exact h
    · simp only [trim, getTok_cons]
      split
      · rename_i hd
        split
        · rename_i hall
          simp only [rightsLeft, hall, if_true] at hs
          rcases hs with hs | hs
          · omega
          · rw [List.getElem?_take, if_pos hs.2]
        · rfl
      · rfl
    · by_cases hall : ((f.blks.take nb).all fun b => decide (b.tk ≤ nt)) = true
      · refine .inl ?_
        rcases hs with hs | ⟨hd, hk⟩
        · exact .inl hs
        · refine .inr ⟨hd, ?_⟩
          simp only [rightsLeft, hall, if_true]
          rw [getBlk_cons, if_pos hd] at h
          have hm : b ∈ f.blks.take nb := List.mem_of_getElem? (i := k) (by rw [List.getElem?_take, if_pos hk]; exact h)
          simpa using List.all_eq_true.1 hall b hm
      · refine .inr fun d' k' c hc => ?_
        obtain ⟨m, l, u⟩ := c
        have ht := (hR.tok d' k' m l u hc).1
        have hlt := getTok_lt ht
        simp only [List.length_cons] at hlt
        simp only [rightsLeft, hall]
        rw [getTok_cons] at ht
        unfold stays
        by_cases hd : d' = r.length
        · rw [if_pos hd] at ht
          have := (List.getElem?_eq_some_iff.1 ht).1
          exact .inr ⟨hd, this⟩
        · exact .inl (by omega)

theorem trim_length (nb nt : Nat) (s : St) : (trim nb nt s).length = s.length := by cases s <;> rfl

theorem loopK_sound {α : Type} {body : Code} {bodyK : (AX → Env → St → Option α) → Env → St → Option α} (hb : ∀ (k : AX → Env → St → Option α) (e : Env) (s : St) (out : α), bodyK k e s = some out → ∃ x e' s', k x e' s' = some out ∧ CodeOk X body e s x e' s')
    (lv : Option (List Nat)) (nb nt : Nat) (k : AX → Env → St → Option α) : ∀ (m : Nat) (e : Env) (s : St) (out : α), loopK bodyK lv nb nt k m e s = some out → ∃ (N : Nat) (x : AX) (e' : Env) (s' : St), k x e' s' = some out ∧ s'.length = s.length ∧
      ∀ (G0 : Gh) (w0 : World) (G : Gh) (w : World) (a : Act) (Q : Exit → Act → World → Prop), Rel X G s w → EnvRel G w e a → Ext G0 w0 G w → (∀ d k g, G0.bl d k = some g → stays (depth s) nb d k) → (∀ d k c, G0.cur d k = some c → stays (depth s) nt d k) → (∀ d k, G0.no d k → stays (depth s) nb d k) →
      (∀ G' w' a', Rel X G' s' w' → Ext G0 w0 G' w' → EnvRel G' w' e' a' → Q x.ex a' w') → Code.rounds X.P body Q N a w
  | 0, e, s, out, h => by cases h
  | m + 1, e, s, out, h => by
    obtain ⟨x, e1, s1, h1, h2⟩ := hb _ e s out h
    cases x with
    | normal =>
      simp only at h1
      split at h1
      · rename_i hds
        obtain ⟨N, x, e', s', h3, h4, h5⟩ := loopK_sound hb lv nb nt k m _ _ out h1
        refine ⟨N + 1, x, e', s', h3, h4.trans ((trim_length _ _ _).trans h2.len), fun G0 w0 G w a Q hR hE h0 hbl hcu hno hQ => ?_⟩
        have hd1 : depth s1 = depth s := by simp [depth, h2.len]
        have hdt : depth (trim nb nt s1) = depth s := by simp [depth, trim_length, h2.len]
        have key : ∀ G1 w1 a1, Rel X G1 s1 w1 → Ext G w G1 w1 → EnvRel G1 w1 e1 a1 → Code.rounds X.P body Q N a1 w1 := fun G1 w1 a1 r1 r2 r3 => by
          have hext : Ext G0 w0 G1 w1 := h0.trans r2
          refine h5 G0 w0 (G1.cut (depth s1) nb (rightsLeft nb nt s1) (fun _ => 0)) w1 a1 Q (rel_trim r1 nb nt _) (killE_rel lv r3 hds) (hext.cut (fun d k g hg => by rw [hd1]; exact hbl d k g hg) (fun d k c hc => ?_) (fun d k hn => by rw [hd1]; exact hno d k hn)) (fun d k g hg => by rw [hdt]; exact hbl d k g hg) (fun d k c hc => by rw [hdt]; exact hcu d k c hc) (fun d k hn => by rw [hdt]; exact hno d k hn) hQ
          have hst := hcu d k c hc
          obtain ⟨m1, l1, u1⟩ := c
          obtain ⟨m2, l2, u2, hc2, _⟩ := hext.cur d k m1 l1 u1 hc
          have ht := (r1.tok d k m2 l2 u2 hc2).1
          rw [hd1]
          cases s1 with
          | nil => exact hst
          | cons f r =>
            have hD : depth s = r.length := by rw [← hd1]; simp [depth]
            rw [hD] at hst ⊢
            simp only [rightsLeft]
            split
            · exact hst
            · rw [getTok_cons] at ht
              rcases hst with hst | ⟨hst, _⟩
              · exact .inl hst
              · rw [if_pos hst] at ht
                exact .inr ⟨hst, (List.getElem?_eq_some_iff.1 ht).1⟩
        exact h2.run G w a _ hR hE key
      · cases h1
    | exit id =>
      refine ⟨1, .exit id, e1, s1, h1, h2.len, fun G0 w0 G w a Q hR hE h0 hbl hcu hno hQ => ?_⟩
      exact h2.run G w a _ hR hE fun G' w' a' r1 r2 r3 => hQ G' w' a' r1 (h0.trans r2) r3
    | ret =>
      refine ⟨1, .ret, e1, s1, h1, h2.len, fun G0 w0 G w a Q hR hE h0 hbl hcu hno hQ => ?_⟩
      exact h2.run G w a _ hR hE fun G' w' a' r1 r2 r3 => hQ G' w' a' r1 (h0.trans r2) r3

theorem acode_sound {α : Type} {cf : CallF} (hcf : CFOk X cf) (hD : RegionsOk X cf) (n : Nat) (lv : Nat → Option (List Nat)) : ∀ (c : Code) (k : AX → Env → St → Option α) (e : Env) (s : St) (out : α), acode X cf n lv c k e s = some out →
    ∃ x e' s', k x e' s' = some out ∧ CodeOk X c e s x e' s' := by
  intro c
  induction c with
  | skip => intro k e s out h; exact ⟨.normal, e, s, h, rfl, fun G w a Q hR hE hQ => wp_skip (hQ G w a hR (.refl G w) hE)⟩
  | label l => intro k e s out h; exact ⟨.normal, e, s, h, rfl, fun G w a Q hR hE hQ => wp_label (hQ G w a hR (.refl G w) hE)⟩
  | ret => intro k e s out h; exact ⟨.ret, e, s, h, rfl, fun G w a Q hR hE hQ => wp_ret (hQ G w a hR (.refl G w) hE)⟩
  | exit id => intro k e s out h; exact ⟨.exit id, e, s, h, rfl, fun G w a Q hR hE hQ => wp_exit (hQ G w a hR (.refl G w) hE)⟩
  | region id ops draw =>
    intro k e s out h
    simp only [acode] at h
    cases draw with
    | true =>
      simp only [if_true] at h
      split at h
      · rename_i hok
        obtain ⟨e', s', h1, h2⟩ := hD id ops e s _ out hok h
        exact ⟨.normal, e', s', h1, h2⟩
      · cases h
    | false =>
      simp only [Bool.false_eq_true, if_false] at h
      obtain ⟨e', s', h1, h2⟩ := region_ok hcf id ops h
      exact ⟨.normal, e', s', h1, h2⟩
  | seq a b iha ihb =>
    intro k e s out h
    simp only [acode] at h
    obtain ⟨x, e1, s1, h1, h2⟩ := iha _ e s out h
    cases x with
    | normal =>
      obtain ⟨x, e2, s2, h3, h4⟩ := ihb _ e1 s1 out h1
      refine ⟨x, e2, s2, h3, h4.len.trans h2.len, fun G w a Q hR hE hQ => wp_seq (h2.run G w a _ hR hE fun G' w' a' r1 r2 r3 => ?_)⟩
      exact h4.run G' w' a' Q r1 r3 fun G'' w'' a'' q1 q2 q3 => hQ G'' w'' a'' q1 (r2.trans q2) q3
    | exit id => exact ⟨.exit id, e1, s1, h1, h2.len, fun G w a Q hR hE hQ => wp_seq (h2.run G w a _ hR hE hQ)⟩
    | ret => exact ⟨.ret, e1, s1, h1, h2.len, fun G w a Q hR hE hQ => wp_seq (h2.run G w a _ hR hE hQ)⟩
  | cond c a b iha ihb =>
    intro k e s out h
    simp only [acode] at h
    split at h
    · rename_i t ht
      have hv : ∀ G w (act : Act), Rel X G s w → EnvRel G w e act → act.eval c = .bool t := fun G w act hR hE => by
        have := eva_rel hR hE c
        rw [ht] at this
        generalize act.eval c = q at this
        cases this
        rfl
      split at h
      · rename_i htt
        subst htt
        obtain ⟨x, e', s', h1, h2⟩ := iha k e s out h
        exact ⟨x, e', s', h1, h2.len, fun G w act Q hR hE hQ => wp_cond_true (hv G w act hR hE) (h2.run G w act Q hR hE hQ)⟩
      · rename_i htt
        have htt : t = false := by simpa using htt
        subst htt
        obtain ⟨x, e', s', h1, h2⟩ := ihb k e s out h
        exact ⟨x, e', s', h1, h2.len, fun G w act Q hR hE hQ => wp_cond_false (hv G w act hR hE) (h2.run G w act Q hR hE hQ)⟩
    · cases h
  | block id a iha =>
    intro k e s out h
    simp only [acode] at h
    obtain ⟨x, e1, s1, h1, h2⟩ := iha _ e s out h
    cases x with
    | normal => exact ⟨.normal, e1, s1, h1, h2.len, fun G w act Q hR hE hQ => wp_block (h2.run G w act _ hR hE hQ)⟩
    | ret => exact ⟨.ret, e1, s1, h1, h2.len, fun G w act Q hR hE hQ => wp_block (h2.run G w act _ hR hE hQ)⟩
    | exit j =>
      simp only at h1
      split at h1
      · rename_i hj
        subst hj
        refine ⟨.normal, e1, s1, h1, h2.len, fun G w act Q hR hE hQ => wp_block (h2.run G w act _ hR hE fun G' w' a' r1 r2 r3 => ?_)⟩
        simp only [AX.ex, Exit.inBlock, if_true]
        exact hQ G' w' a' r1 r2 r3
      · rename_i hj
        refine ⟨.exit j, e1, s1, h1, h2.len, fun G w act Q hR hE hQ => wp_block (h2.run G w act _ hR hE fun G' w' a' r1 r2 r3 => ?_)⟩
        simp only [AX.ex, Exit.inBlock]
        rw [if_neg hj]
        exact hQ G' w' a' r1 r2 r3
  | loop a iha =>
    intro k e s out h
    simp only [acode] at h
    obtain ⟨N, x, e', s', h1, h2, h3⟩ := loopK_sound (body := a) (fun k e s out h => iha k e s out h) _ _ _ k n _ s out h
    refine ⟨x, e', s', h1, h2, fun G w act Q hR hE hQ => wp_loop_rounds N (h3 G w G w act Q hR (killE_id _ hE) (.refl G w) (fun d k' g hg => ?_) (fun d k' c hc => ?_) (fun d k' hn => ?_) hQ)⟩
    · obtain ⟨b, _, hb, _⟩ := hR.blk d k' g hg
      have hlt := getBlk_lt hb
      cases s with
      | nil => simp at hlt
      | cons f r =>
        rw [getBlk_cons] at hb
        unfold stays
        have hD : depth (f :: r) = r.length := by simp [depth]
        rw [hD]
        simp only [List.length_cons] at hlt
        by_cases hd : d = r.length
        · rw [if_pos hd] at hb
          exact .inr ⟨hd, (List.getElem?_eq_some_iff.1 hb).1⟩
        · exact .inl (by omega)
    · obtain ⟨m, l, u⟩ := c
      have ht := (hR.tok d k' m l u hc).1
      have hlt := getTok_lt ht
      cases s with
      | nil => simp at hlt
      | cons f r =>
        rw [getTok_cons] at ht
        unfold stays
        have hD : depth (f :: r) = r.length := by simp [depth]
        rw [hD]
        simp only [List.length_cons] at hlt
        by_cases hd : d = r.length
        · rw [if_pos hd] at ht
          have hlt2 : k' < f.toks.length := (List.getElem?_eq_some_iff.1 ht).1
          refine .inr ⟨hd, Nat.lt_of_lt_of_le hlt2 ?_⟩
          have hT : topT (f :: r) = f.toks.length := rfl
          unfold topN
          split
          · split <;> omega
          · omega
        · exact .inl (by omega)
    · obtain ⟨_, b, hb⟩ := hR.no d k' hn
      have hlt := getBlk_lt hb
      cases s with
      | nil => simp at hlt
      | cons f r =>
        rw [getBlk_cons] at hb
        unfold stays
        have hD : depth (f :: r) = r.length := by simp [depth]
        rw [hD]
        simp only [List.length_cons] at hlt
        by_cases hd : d = r.length
        · rw [if_pos hd] at hb
          exact .inr ⟨hd, (List.getElem?_eq_some_iff.1 hb).1⟩
        · exact .inl (by omega)
  | scope a iha =>
    intro k e s out h
    simp only [acode] at h
    obtain ⟨x, e', s', h1, h2⟩ := iha k e s out h
    refine ⟨x, e', s', h1, h2.len, fun G w act Q hR hE hQ => wp_scope_straight (h2.run G w act _ hR hE fun G' w' a' r1 r2 r3 => ?_)⟩
    cases x <;> exact hQ G' w' a' r1 r2 r3
  | _ => intro k e s out h; simp [acode] at h
end
end Go.Proofs.YtnfdepafmmibaaaDoor

