/-
  What is proved here: nothing of a program; the definitions of an abstract evaluator of the model's code (values whose block numbers are relative, blocks as lists of cells, calls by a table of contracts), for use in the texts that import this one.
-/
import Derived.Test.YthddkcoflnbjbaaDoorLaid
import Derived.WalkKit
import Derived.Deep.Quiet
import Derived.Deep.Draws
import Derived.KernelRfl
namespace Sm
open Go

/-- A value of one cell: a value without memory ('st': its number is written out, not only named); a pointer to a cell of block i; a slice over block i; an empty slice without room behind it; a function that holds pointers; a slice of nothing, of whatever kind; any float; any complex number; a list in memory that nobody writes (its length, how many elements are known, the cells of an element, the elements); a pointer to an element of such a list, 'o' cells further on; a pointer to element k of block i; a list grown from nothing in block i; a slice of nothing that has no room. -/
inductive C1 where
  | sc (v : Value) (st : Bool)
  | ptr (i off : Nat)
  | sl (i off len sz : Nat)
  | e0 (i off : Nat)
  | fn (f : FuncId) (ps : List (Nat × Nat))
  | em
  | fl (k : FloatKind)
  | cf (k : FloatKind)
  | lst (n N sz : Nat) (f : Nat → List C1)
  | pl (cs : List C1) (o : Nat)
  | pr (i k sz o : Nat)
  | gr (i n sz : Nat)
  | ez

inductive AV where
  | one (c : C1)
  | agg (l : List C1)
  | tup (l : List (Bool × List C1))
  | undef
  | bad

/-- The cells of a block: written out, or so many, told by a function of the place; or so many elements of so many cells, told by a function of the element's place. -/
inductive Body where
  | li (cells : List C1)
  | sy (n : Nat) (g : Nat → C1)
  | rs (n sz : Nat) (f : Nat → List C1)

structure Blk where
  body : Body
  elem : TypeId
  live : Bool
  ro : Bool

def symC (n : Nat) (g : Nat → C1) : List C1 := (List.range n).map g

/-- The cells of so many elements. -/
def recC (n sz : Nat) (f : Nat → List C1) : List C1 := (List.range (n * sz)).map fun j => (f (j / sz)).getD (j % sz) .em

def Body.cells : Body → List C1
  | .li l => l
  | .sy n g => symC n g
  | .rs n sz f => recC n sz f

def Blk.cells (b : Blk) : List C1 := b.body.cells

@[simp] theorem Blk.cells_li (l : List C1) (e : TypeId) (v r : Bool) : (Blk.mk (.li l) e v r).cells = l := rfl

structure St where
  hp : List Blk

def AV.cells : AV → Option (List C1)
  | .one c => some [c]
  | .agg l => some l
  | _ => none

/-- A run that asks the world nothing. -/
def pureRun (P : Program) {α : Type} : Sem α → Option α
  | .pure a => some a
  | .program k => pureRun P (k P)
  | _ => none

def pureNext (P : Program) (s : Sem Next) : Option Value :=
  match pureRun P s with
  | some (.value v) => some v
  | _ => none

/-- A value that fits one cell. -/
def oneC : Value → Bool
  | .agg _ | .tuple _ => false
  | _ => true

def C1.toV : C1 → Option Value
  | .sc v _ => some v
  | _ => none

def C1.static : C1 → Bool
  | .sc _ st => st
  | _ => true

def allV : List C1 → Option (List Value)
  | [] => some []
  | c :: l => match c.toV, allV l with
    | some v, some vs => some (v :: vs)
    | _, _ => none

def AV.toV : AV → Option Value
  | .one c => c.toV
  | .agg l => (allV l).map fun vs => .agg vs.toArray
  | .tup _ => none
  | .undef => some Go.undef
  | .bad => none

def AV.static : AV → Bool
  | .one c => c.static
  | .agg l => l.all C1.static
  | _ => true

/-- The temporaries: a tree, by the bits of the number; 'fill': nothing is known. -/
inductive Tr where
  | leaf
  | fill
  | node (v : AV) (l r : Tr)

/-- 'i' counted from 1 on: 1 is the root; 2 i and 2 i + 1 are below i. 'f' bounds the depth. -/
def Tr.get : Nat → Tr → Nat → AV
  | 0, .fill, _ => .bad
  | 0, _, _ => .undef
  | _ + 1, .leaf, _ => .undef
  | _ + 1, .fill, _ => .bad
  | f + 1, .node v l r, i =>
    match Nat.beq i 1 with
    | true => v
    | false => match Nat.beq (i % 2) 0 with
      | true => Tr.get f l (i / 2)
      | false => Tr.get f r (i / 2)

def Tr.set : Nat → Tr → Nat → AV → Tr
  | 0, t, _, _ => t
  | f + 1, .leaf, i, x =>
    match Nat.beq i 1 with
    | true => .node x .leaf .leaf
    | false => match Nat.beq (i % 2) 0 with
      | true => .node .undef (Tr.set f .leaf (i / 2) x) .leaf
      | false => .node .undef .leaf (Tr.set f .leaf (i / 2) x)
  | f + 1, .fill, i, x =>
    match Nat.beq i 1 with
    | true => .node x .fill .fill
    | false => match Nat.beq (i % 2) 0 with
      | true => .node .bad (Tr.set f .fill (i / 2) x) .fill
      | false => .node .bad .fill (Tr.set f .fill (i / 2) x)
  | f + 1, .node v l r, i, x =>
    match Nat.beq i 1 with
    | true => .node x l r
    | false => match Nat.beq (i % 2) 0 with
      | true => .node v (Tr.set f l (i / 2) x) r
      | false => .node v l (Tr.set f r (i / 2) x)

structure Tm where
  n : Nat
  t : Tr

def getT (l : Tm) (i : Nat) : AV :=
  match Nat.blt i l.n with
  | true => Tr.get 12 l.t (i + 1)
  | false => .undef

def setT (l : Tm) (i : Nat) (v : AV) : Tm :=
  match Nat.blt i l.n with
  | true => ⟨l.n, Tr.set 12 l.t (i + 1) v⟩
  | false => l

def ofArgs : Nat → List AV → Tm → Tm
  | _, [], t => t
  | i, v :: l, t => ofArgs (i + 1) l (setT t i v)

def ofV (v : Value) (st : Bool) : Option AV :=
  match v with
  | .agg vs => if vs.toList.all oneC then some (.agg (vs.toList.map fun v => .sc v st)) else none
  | .tuple _ => none
  | v => some (.one (.sc v st))

def evalO (tm : Tm) : Operand → AV
  | .tmp t => getT tm t
  | .const v => match ofV v true with
    | some a => a
    | none => .bad
  | .global g => .one (.sc (.pointer (some ⟨g, 0, none⟩)) true)
  | .func f => .one (.fn f [])

def putT (tm : Tm) (dst : Option Tmp) (v : AV) : Tm :=
  match dst with
  | some d => setT tm d v
  | none => tm

/-- What is known of a type. -/
structure TI where
  desc : TypeDesc
  size : Nat
  bytes : Nat
  zero : List C1

/-- The tables of a program, as far as the evaluator needs them. 'mg': operations under a guard that is not written out are walked under their condition. 'tr': a list that is copied is one's own block. 'fn': functions that may be walked in place. -/
structure Tab where
  ty : TypeId → Option TI
  eqOk : TypeId → Bool
  mg : Bool := false
  tr : Bool := false
  fn : FuncId → Option Func := fun _ => none

def isAggD : TypeDesc → Bool
  | .struct _ | .array _ _ => true
  | _ => false

def getB : List Blk → Nat → Option Blk
  | [], _ => none
  | b :: _, 0 => some b
  | _ :: l, i + 1 => getB l i

def setB : List Blk → Nat → Blk → List Blk
  | [], _, _ => []
  | _ :: l, 0, b => b :: l
  | a :: l, i + 1, b => a :: setB l i b

def splice (cs : List C1) (off : Nat) (vs : List C1) : List C1 := cs.take off ++ vs ++ cs.drop (off + vs.length)

/-- The part of an aggregate that begins at a cell, of a type. -/
def partA (ti : TI) (cs : List C1) (off : Nat) : Option AV :=
  if isAggD ti.desc then (if off + ti.size ≤ cs.length then some (.agg ((cs.drop off).take ti.size)) else none)
  else (cs[off]?).map .one

/-- A number whose value is written out. -/
def litInt : AV → Option (IntKind × Int)
  | .one (.sc (.int k n) true) => some (k, n)
  | _ => none

end Sm
