/-
  What is proved here: nothing of a program; the definitions of an abstract evaluator of the model's code (values whose block numbers are relative, blocks as lists of cells, calls by a table of contracts), for use in the texts that import this one. nothing of a program; the steps of the abstract evaluator: one operation, a region, a piece of code, each as a condition (a proposition) on what follows. A text to be imported.
-/
import Derived.Test.YtgpbpgbokfdbeaaDoorLaid
import Derived.WalkKit
import Derived.Deep.Quiet
import Derived.Deep.Draws
import Derived.KernelRfl
namespace Sm
open Go

/-- A value of one cell: a value without memory ('st': its number is written out, not only named); a pointer to a cell of block i; a slice over block i; an empty slice without room behind it; a function that holds pointers; a slice of nothing, of whatever kind; any float; any complex number; a list in memory that nobody writes (its length, how many elements are known, the cells of an element, the elements); a pointer to an element of such a list, 'o' cells further on; a pointer to element k of block i; a list grown from nothing in block i; a slice of nothing that has no room; the map of block i. -/
inductive C1 where
  | sc (v : Value) (st : Bool)
  | ptr (i off : Nat)
  | sl (i off len sz : Nat)
  | e0 (i off : Nat)
  | fn (f : FuncId) (ps : List (Nat × Nat))
  | em
  | fl (k : FloatKind)
  | cf (k : FloatKind)
  | lst (n N sz : Nat) (f : Nat → List C1)
  | pl (cs : List C1) (o : Nat)
  | pr (i k sz o : Nat)
  | gr (i n sz : Nat)
  | ez
  | mp (i : Nat)

inductive AV where
  | one (c : C1)
  | agg (l : List C1)
  | tup (l : List (Bool × List C1))
  | undef
  | bad

/-- The cells of a block: written out, or so many, told by a function of the place; or so many elements of so many cells, told by a function of the element's place. A map: keys and what they hold (such a block is never live). -/
inductive Body where
  | li (cells : List C1)
  | sy (n : Nat) (g : Nat → C1)
  | rs (n sz : Nat) (f : Nat → List C1)
  | mp (l : List (Int × C1))

def noMp : Body → Bool
  | .mp _ => false
  | _ => true

structure Blk where
  body : Body
  elem : TypeId
  live : Bool
  ro : Bool
  full : Bool := false

def symC (n : Nat) (g : Nat → C1) : List C1 := (List.range n).map g

/-- The cells of so many elements. -/
def recC (n sz : Nat) (f : Nat → List C1) : List C1 := (List.range (n * sz)).map fun j => (f (j / sz)).getD (j % sz) .em

def Body.cells : Body → List C1
  | .li l => l
  | .sy n g => symC n g
  | .rs n sz f => recC n sz f
  | .mp _ => []

def Blk.cells (b : Blk) : List C1 := b.body.cells

@[simp] theorem Blk.cells_li (l : List C1) (e : TypeId) (v r fu : Bool) : (Blk.mk (.li l) e v r fu).cells = l := rfl

structure St where
  hp : List Blk

def AV.cells : AV → Option (List C1)
  | .one c => some [c]
  | .agg l => some l
  | _ => none

/-- A run that asks the world nothing. -/
def pureRun (P : Program) {α : Type} : Sem α → Option α
  | .pure a => some a
  | .program k => pureRun P (k P)
  | _ => none

def pureNext (P : Program) (s : Sem Next) : Option Value :=
  match pureRun P s with
  | some (.value v) => some v
  | _ => none

/-- A value that fits one cell. -/
def oneC : Value → Bool
  | .agg _ | .tuple _ => false
  | _ => true

def C1.toV : C1 → Option Value
  | .sc v _ => some v
  | _ => none

def C1.static : C1 → Bool
  | .sc _ st => st
  | _ => true

def allV : List C1 → Option (List Value)
  | [] => some []
  | c :: l => match c.toV, allV l with
    | some v, some vs => some (v :: vs)
    | _, _ => none

def AV.toV : AV → Option Value
  | .one c => c.toV
  | .agg l => (allV l).map fun vs => .agg vs.toArray
  | .tup _ => none
  | .undef => some Go.undef
  | .bad => none

def AV.static : AV → Bool
  | .one c => c.static
  | .agg l => l.all C1.static
  | _ => true

/-- The temporaries: a tree, by the bits of the number; 'fill': nothing is known. -/
inductive Tr where
  | leaf
  | fill
  | node (v : AV) (l r : Tr)

/-- 'i' counted from 1 on: 1 is the root; 2 i and 2 i + 1 are below i. 'f' bounds the depth. -/
def Tr.get : Nat → Tr → Nat → AV
  | 0, .fill, _ => .bad
  | 0, _, _ => .undef
  | _ + 1, .leaf, _ => .undef
  | _ + 1, .fill, _ => .bad
  | f + 1, .node v l r, i =>
    match Nat.beq i 1 with
    | true => v
    | false => match Nat.beq (i % 2) 0 with
      | true => Tr.get f l (i / 2)
      | false => Tr.get f r (i / 2)

def Tr.set : Nat → Tr → Nat → AV → Tr
  | 0, t, _, _ => t
  | f + 1, .leaf, i, x =>
    match Nat.beq i 1 with
    | true => .node x .leaf .leaf
    | false => match Nat.beq (i % 2) 0 with
      | true => .node .undef (Tr.set f .leaf (i / 2) x) .leaf
      | false => .node .undef .leaf (Tr.set f .leaf (i / 2) x)
  | f + 1, .fill, i, x =>
    match Nat.beq i 1 with
    | true => .node x .fill .fill
    | false => match Nat.beq (i % 2) 0 with
      | true => .node .bad (Tr.set f .fill (i / 2) x) .fill
      | false => .node .bad .fill (Tr.set f .fill (i / 2) x)
  | f + 1, .node v l r, i, x =>
    match Nat.beq i 1 with
    | true => .node x l r
    | false => match Nat.beq (i % 2) 0 with
      | true => .node v (Tr.set f l (i / 2) x) r
      | false => .node v l (Tr.set f r (i / 2) x)

structure Tm where
  n : Nat
  t : Tr

def getT (l : Tm) (i : Nat) : AV :=
  match Nat.blt i l.n with
  | true => Tr.get 12 l.t (i + 1)
  | false => .undef

def setT (l : Tm) (i : Nat) (v : AV) : Tm :=
  match Nat.blt i l.n with
  | true => ⟨l.n, Tr.set 12 l.t (i + 1) v⟩
  | false => l

def ofArgs : Nat → List AV → Tm → Tm
  | _, [], t => t
  | i, v :: l, t => ofArgs (i + 1) l (setT t i v)

def ofV (v : Value) (st : Bool) : Option AV :=
  match v with
  | .agg vs => if vs.toList.all oneC then some (.agg (vs.toList.map fun v => .sc v st)) else none
  | .tuple _ => none
  | v => some (.one (.sc v st))

def evalO (tm : Tm) : Operand → AV
  | .tmp t => getT tm t
  | .const v => match ofV v true with
    | some a => a
    | none => .bad
  | .global g => .one (.sc (.pointer (some ⟨g, 0, none⟩)) true)
  | .func f => .one (.fn f [])

def putT (tm : Tm) (dst : Option Tmp) (v : AV) : Tm :=
  match dst with
  | some d => setT tm d v
  | none => tm

/-- What is known of a type. -/
structure TI where
  desc : TypeDesc
  size : Nat
  bytes : Nat
  zero : List C1

/-- The tables of a program, as far as the evaluator needs them. 'mg': operations under a guard that is not written out are walked under their condition. 'tr': a list that is copied is one's own block. 'fn': functions that may be walked in place. -/
structure Tab where
  ty : TypeId → Option TI
  eqOk : TypeId → Bool
  mg : Bool := false
  tr : Bool := false
  af : Bool := false
  fn : FuncId → Option Func := fun _ => none

def isAggD : TypeDesc → Bool
  | .struct _ | .array _ _ => true
  | _ => false

def getB : List Blk → Nat → Option Blk
  | [], _ => none
  | b :: _, 0 => some b
  | _ :: l, i + 1 => getB l i

def setB : List Blk → Nat → Blk → List Blk
  | [], _, _ => []
  | _ :: l, 0, b => b :: l
  | a :: l, i + 1, b => a :: setB l i b

def splice (cs : List C1) (off : Nat) (vs : List C1) : List C1 := cs.take off ++ vs ++ cs.drop (off + vs.length)

/-- The part of an aggregate that begins at a cell, of a type. -/
def partA (ti : TI) (cs : List C1) (off : Nat) : Option AV :=
  if isAggD ti.desc then (if off + ti.size ≤ cs.length then some (.agg ((cs.drop off).take ti.size)) else none)
  else (cs[off]?).map .one

/-- A number whose value is written out. -/
def litInt : AV → Option (IntKind × Int)
  | .one (.sc (.int k n) true) => some (k, n)
  | _ => none

end Sm
namespace Sm
open Go

/-- A part of a region that draws its order: operations that may be carried out ahead, those that make memory one behind the other, and a new variable; or operations one behind the other; or the same, where some that look at the temporaries alone are carried out first. -/
inductive Win where
  | f (qs cs : List Nat) (al : Option Nat)
  | s (js : List Nat)
  | g (qs js : List Nat)

/-- A sign of the oracle: the outcome of the next Bool that is not written out; the next whole number that is not written out; that two ways be merged; that the next loop be taken by a contract; that the ways through the next block meet again at its end; that the next loop go round; how many operations stand at the head of the next region that draws its order and makes memory; the same, where operation 'i' of the head may come late, up to operation 'm'; how the next such region goes, part by part. -/
inductive Sg where
  | b (g : Bool)
  | n (m : Int)
  | m
  | l (k : Nat)
  | j
  | u
  | d (n : Nat)
  | e (n i m : Nat)
  | f (ws : List Win)

instance : Coe Bool Sg := ⟨Sg.b⟩

/-- A value of Bool whose outcome is not written out is guessed by the next sign of the oracle; without an oracle the two ways part. -/
def guess (b : Bool) (orc : List Sg) (K : Bool → List Sg → Prop) : Prop :=
  match orc with
  | .b g :: r => b = g ∧ K g r
  | [] => (b = true → K true []) ∧ (b = false → K false [])
  | _ => False

def isComp : Op → Bool
  | .binOp .. | .unOp .. | .convert .. => true
  | _ => false

/-- Where the next sign is a number, the next whole number that is reckoned and not written out is that one. -/
def fixA (o : Oper) (v : AV) (orc : List Sg) (K : AV → List Sg → Prop) : Prop :=
  match isComp o.op with
  | false => K v orc
  | true => match orc with
    | .n m :: r => match v with
      | .one (.sc (.int k x) false) => (x == m) = true ∧ K (.one (.sc (.int k m) true)) r
      | v => K v orc
    | orc => K v orc

/-- Are two ways to be merged? -/
def mergeAt (quiet : Bool) (orc : List Sg) : Option (List Sg) :=
  match quiet with
  | false => none
  | true => match orc with
    | [] => some []
    | .m :: r => some r
    | _ => none

abbrev Post := AV → List Blk → Prop

/-- How a piece of code is left. -/
inductive Ex where
  | normal
  | exit (id : Nat)
  | ret

/-- Calls: of functions that change nothing that was there, what a call hands back (a value without memory), 'pre': if something holds, 'ext': of a function without a body; of others, the memory behind the call too. Loops: by a number, the body; what must hold, how it is left, and what then is there. 'pr': the walk goes under a condition: what is stored is stored if it holds. -/
structure Fns where
  pure : FuncId → List AV → List Blk → Option AV
  pre : FuncId → List AV → List Blk → Option (Prop × AV)
  ext : FuncId → List AV → Option (Option Prop × AV)
  gen : FuncId → List AV → List Blk → Option (AV × List Blk)
  gnp : FuncId → List AV → List Blk → Option (Prop × AV × List Blk) := fun _ _ _ => none
  loops : Nat → Option (Code × (Tm → List Blk → Option (Prop × Ex × Tm × List Blk)))
  pr : Option Bool
  co : FuncId → Option (List Sg) := fun _ => none
  cal : FuncId → List AV → List Blk → Post → Prop := fun _ _ _ _ => False
  dr : Bool := true

def Fns.quiet (F : Fns) : Fns := { F with gen := fun _ _ _ => none, gnp := fun _ _ _ => none, co := fun _ => none, cal := fun _ _ _ _ => False, dr := false }

def liveB (hp : List Blk) (i : Nat) : Option Blk :=
  match getB hp i with
  | some b => if b.live then some b else none
  | none => none

/-- The cells of a live block from a place on, of a type. -/
def loadA (T : Tab) (t : TypeId) (hp : List Blk) (i off : Nat) : Option AV :=
  match T.ty t, liveB hp i with
  | some ti, some b => if ti.size = 0 then none else partA ti b.cells off
  | _, _ => none

def storeA (hp : List Blk) (i off : Nat) (vs : List C1) : Option (List Blk) :=
  match liveB hp i with
  | some b => if !b.ro && off + vs.length ≤ b.cells.length then some (setB hp i { b with body := .li <| splice b.cells off vs }) else none
  | none => none

def oneC1 : C1 → Bool
  | .sc v _ => oneC v
  | _ => true

/-- The parts of a value written into cells. -/
def fillA (place : Nat → Option (Nat × Nat)) : List C1 → List (Nat × AV) → Option (List C1)
  | cs, [] => some cs
  | cs, (i, v) :: rest =>
    match place i, v.cells with
    | some (off, size), some vs => if vs.length = size ∧ off + size ≤ cs.length then fillA place (splice cs off vs) rest else none
    | _, _ => none

def kill (hp : List Blk) (i : Nat) : List Blk :=
  match getB hp i with
  | some b => setB hp i { b with live := false }
  | none => hp

/-- The block that an append goes on with: it is not looked at any more, but where there is no room behind its cells. -/
def killA (hp : List Blk) (i : Nat) : List Blk :=
  match getB hp i with
  | some b => match b.full with
    | true => hp
    | false => setB hp i { b with live := false }
  | none => hp

def repeatC (cs : List C1) : Nat → List C1
  | 0 => []
  | n + 1 => cs ++ repeatC cs n

def staticOps (tm : Tm) (xs : List Operand) : Bool := xs.all fun x => (evalO tm x).static

/-- An operation on values without memory: as the model itself runs it. -/
def scalK (P : Program) (o : Oper) (tm : Tm) (hp : List Blk) (K : Post) : Prop :=
  if (o.op.operands.toList.all fun x => (evalO tm x).toV.isSome) then
    match pureNext P (execOp (fun x => ((evalO tm x).toV).getD Go.undef) o) with
    | some v => match ofV v (staticOps tm o.op.operands.toList) with
      | some a => K a hp
      | none => False
    | none => False
  else False


/-- An operation on two whole numbers. -/
def intBin (op : BinOp) (k : IntKind) (a b : Int) : Option Value :=
  match op with
  | .add => some (.int k (k.wrap (a + b)))
  | .sub => some (.int k (k.wrap (a - b)))
  | .mul => some (.int k (k.wrap (a * b)))
  | .eql => some (.bool (a == b))
  | .neq => some (.bool (a != b))
  | .lss => some (.bool (a < b))
  | .leq => some (.bool (a ≤ b))
  | .gtr => some (.bool (a > b))
  | .geq => some (.bool (a ≥ b))
  | _ => none

/-- Are all of so many parts alike? -/
def allE (f : Nat → Option Bool) : Nat → Nat → Option Bool
  | _, 0 => some true
  | i, k + 1 => match f i, allE f (i + 1) k with
    | some a, some b => some (a && b)
    | _, _ => none

def fieldsE (f : TypeId → List Value → List Value → Option Bool) (size : TypeId → Option Nat) (xs ys : List Value) : List Field → Option Bool
  | [] => some true
  | fd :: fs => if fd.name = "_" then none else
    match size fd.type with
    | some n => if fd.offset + n ≤ xs.length ∧ fd.offset + n ≤ ys.length then
        match f fd.type ((xs.drop fd.offset).take n) ((ys.drop fd.offset).take n), fieldsE f size xs ys fs with
        | some a, some b => some (a && b)
        | _, _ => none
      else none
    | none => none

/-- Are two values of a type alike, cell by cell? -/
def eqT (T : Tab) : Nat → TypeId → List Value → List Value → Option Bool
  | 0, _, _, _ => none
  | d + 1, t, xs, ys =>
    match T.ty t with
    | none => none
    | some ti =>
      match ti.desc with
      | .bool => match xs, ys with
        | [.bool a], [.bool b] => some (a == b)
        | _, _ => none
      | .int _ => match xs, ys with
        | [.int k a], [.int k' b] => if k = k' then some (a == b) else none
        | _, _ => none
      | .float _ => match xs, ys with
        | [.float k a], [.float k' b] => if k = k' then some (Op.floatEq k a b) else none
        | _, _ => none
      | .array n e => match T.ty e with
        | some ei => if xs.length = n * ei.size ∧ ys.length = n * ei.size ∧ ei.size ≠ 0 then
            allE (fun i => eqT T d e ((xs.drop (i * ei.size)).take ei.size) ((ys.drop (i * ei.size)).take ei.size)) 0 n
          else none
        | none => none
      | .struct fs => if T.eqOk t = true ∧ xs.length = ti.size ∧ ys.length = ti.size then
          fieldsE (eqT T d) (fun u => (T.ty u).map (·.size)) xs ys fs.toList
        else none
      | _ => none

def eqlOf (op : BinOp) (b : Bool) : Option Bool :=
  match op with
  | .eql => some b
  | .neq => some (!b)
  | _ => none

def isAggT (T : Tab) (t : TypeId) : Bool := match T.ty t with
  | some ti => isAggD ti.desc
  | none => false

def aggK (T : Tab) (op : BinOp) (t : TypeId) (cs ds : List C1) (hp : List Blk) (K : Post) : Prop :=
  match allV cs, allV ds with
  | some xs, some ys =>
    if T.eqOk t && isAggT T t then
      match eqT T 8 t xs ys with
      | some b => match eqlOf op b with
        | some r => K (.one (.sc (.bool r) (cs.all C1.static && ds.all C1.static))) hp
        | none => False
      | none => False
    else False
  | _, _ => False

def nilK (op : BinOp) (hp : List Blk) (K : Post) : Prop :=
  match eqlOf op false with
  | some r => K (.one (.sc (.bool r) true)) hp
  | none => False

def isPtrT (T : Tab) (t : TypeId) : Bool := match T.ty t with
  | some ti => match ti.desc with
    | .pointer _ => true
    | _ => false
  | none => false

def isSlT (T : Tab) (t : TypeId) : Bool := match T.ty t with
  | some ti => match ti.desc with
    | .slice _ => true
    | _ => false
  | none => false

/-- A quotient or a rest. -/
def divBin (op : BinOp) (k : IntKind) (a b : Int) : Option Value :=
  match op with
  | .quo => some (.int k (k.wrap (a.tdiv b)))
  | .rem => some (.int k (a.tmod b))
  | _ => none

def floatBits? (op : BinOp) (k : FloatKind) (x y : Nat) : Option Nat :=
  match op with
  | .add => k.format.add x y
  | .sub => k.format.sub x y
  | .mul => k.format.mul x y
  | .quo => k.format.div x y
  | _ => none

def isArith : BinOp → Bool
  | .add | .sub | .mul | .quo => true
  | _ => false

/-- The word of a float operation that has one. -/
def fbin (op : BinOp) (k : FloatKind) (x y : Nat) : Nat := (floatBits? op k x y).getD 0

def fok (op : BinOp) (k : FloatKind) (x y : Nat) : Bool := (floatBits? op k x y).isSome

/-- The size of a float's word. -/
def magW (x : Nat) : Nat := x % 2 ^ 63

/-- A complex number divided by another one whose real part is not the smaller. -/
def cqR (c d : Nat) : Nat := fbin .quo .f64 d c
def cqD (c d : Nat) : Nat := fbin .add .f64 c (fbin .mul .f64 (cqR c d) d)
def cqRe (a b c d : Nat) : Nat := fbin .quo .f64 (fbin .add .f64 a (fbin .mul .f64 b (cqR c d))) (cqD c d)
def cqIm (a b c d : Nat) : Nat := fbin .quo .f64 (fbin .sub .f64 b (fbin .mul .f64 a (cqR c d))) (cqD c d)
def nanW (x : Nat) : Bool := (FloatKind.f64.decode x).isNaN
def geqW (x y : Nat) : Bool := FloatKind.f64.format.order x y == some .gt || FloatKind.f64.format.order x y == some .eq
def cqOk (a b c d : Nat) : Prop :=
  geqW (magW c) (magW d) = true ∧ fok .quo .f64 d c = true ∧ fok .mul .f64 (cqR c d) d = true ∧ fok .add .f64 c (fbin .mul .f64 (cqR c d) d) = true ∧
  fok .mul .f64 b (cqR c d) = true ∧ fok .add .f64 a (fbin .mul .f64 b (cqR c d)) = true ∧ fok .quo .f64 (fbin .add .f64 a (fbin .mul .f64 b (cqR c d))) (cqD c d) = true ∧
  fok .mul .f64 a (cqR c d) = true ∧ fok .sub .f64 b (fbin .mul .f64 a (cqR c d)) = true ∧ fok .quo .f64 (fbin .sub .f64 b (fbin .mul .f64 a (cqR c d))) (cqD c d) = true ∧
  nanW (cqRe a b c d) = false

/-- A complex product. -/
def cmRe (a b c d : Nat) : Nat := fbin .sub .f64 (fbin .mul .f64 a c) (fbin .mul .f64 b d)
def cmIm (a b c d : Nat) : Nat := fbin .add .f64 (fbin .mul .f64 a d) (fbin .mul .f64 b c)
def cmOk (a b c d : Nat) : Prop :=
  fok .mul .f64 a c = true ∧ fok .mul .f64 b d = true ∧ fok .sub .f64 (fbin .mul .f64 a c) (fbin .mul .f64 b d) = true ∧
  fok .mul .f64 a d = true ∧ fok .mul .f64 b c = true ∧ fok .add .f64 (fbin .mul .f64 a d) (fbin .mul .f64 b c) = true

/-- An operation on two complex numbers of 64 bits each part: what must hold, the parts. -/
def cxBin (op : BinOp) (a b c d : Nat) : Option (Prop × Nat × Nat) :=
  match op with
  | .add => some (fok .add .f64 a c = true ∧ fok .add .f64 b d = true, fbin .add .f64 a c, fbin .add .f64 b d)
  | .sub => some (fok .sub .f64 a c = true ∧ fok .sub .f64 b d = true, fbin .sub .f64 a c, fbin .sub .f64 b d)
  | .mul => some (cmOk a b c d, cmRe a b c d, cmIm a b c d)
  | .quo => some (cqOk a b c d, cqRe a b c d, cqIm a b c d)
  | _ => none

/-- A shift by a number that is not written out. -/
def shiftV (op : BinOp) (k : IntKind) (a b : Int) : Option Value :=
  match op with
  | .shl => some (.int k (k.wrap (a * 2 ^ (min b.toNat k.bits))))
  | .shr => some (.int k (a.fdiv (2 ^ (min b.toNat k.bits))))
  | _ => none

def isShift : BinOp → Bool
  | .shl | .shr => true
  | _ => false

/-- Pointers to two variables of one's own. -/
def ptrNe (T : Tab) (t : TypeId) (hp : List Blk) (i j : Nat) : Bool :=
  match T.ty t with
  | some ti => match ti.desc with
    | .pointer e => match T.ty e with
      | some ei => !Nat.beq ei.size 0 && !Nat.beq i j && (match liveB hp i with
        | some b => !b.ro
        | none => false) && (match liveB hp j with
        | some b => !b.ro
        | none => false)
      | none => false
    | _ => false
  | none => false

def binK (P : Program) (T : Tab) (t : TypeId) (op : BinOp) (o : Oper) (x y : AV) (tm : Tm) (hp : List Blk) (K : Post) : Prop :=
  match x, y with
  | .one (.sc (.int k a) s), .one (.sc (.int k' b) s') =>
    match isShift op && !s' with
    | true => match shiftV op k a b with
      | some v => decide (b < 0) = false ∧ K (.one (.sc v false)) hp
      | none => False
    | false =>
    if k = k' then match intBin op k a b with
      | some v => K (.one (.sc v (s && s'))) hp
      | none => match s' with
        | true => scalK P o tm hp K
        | false => match divBin op k a b with
          | some v => (b == 0) = false ∧ K (.one (.sc v false)) hp
          | none => scalK P o tm hp K
    else scalK P o tm hp K
  | .one (.sc (.float k a) s), .one (.sc (.float k' b) s') =>
    match (s && s') || !isArith op with
    | true => scalK P o tm hp K
    | false => if k = k' then fok op k a b = true ∧ K (.one (.sc (.float k (fbin op k a b)) false)) hp else False
  | .one (.sc (.complex k a b) s), .one (.sc (.complex k' c d) s') =>
    match (s && s') || !isArith op with
    | true => scalK P o tm hp K
    | false => match cxBin op a b c d with
      | some (p, r, i) => if k = .f64 ∧ k' = .f64 then p ∧ K (.one (.sc (.complex .f64 r i) false)) hp else False
      | none => False
  | .agg cs, .agg ds => aggK T op t cs ds hp K
  | .one (.ptr i _), .one (.ptr j _) => match ptrNe T t hp i j with
    | true => nilK op hp K
    | false => False
  | .one (.ptr _ _), .one (.sc (.pointer none) _) | .one (.sc (.pointer none) _), .one (.ptr _ _) => if isPtrT T t then nilK op hp K else False
  | .one (.sl _ _ _ _), .one (.sc (.slice none _ _) _) | .one (.sc (.slice none _ _) _), .one (.sl _ _ _ _) => if isSlT T t then nilK op hp K else False
  | _, _ => scalK P o tm hp K

/-- The element type of a slice type. -/
def elemT (T : Tab) (t : TypeId) : Option (TypeId × TI) :=
  match T.ty t with
  | some ti => match ti.desc with
    | .slice e => (T.ty e).map fun ei => (e, ei)
    | _ => none
  | none => none

/-- What an append goes on with: the cells, the block, the length. -/
def oldA (hp : List Blk) (e : TypeId) (size : Nat) : AV → Option (List C1 × Option Nat × Nat)
  | .one (.sc (.slice none 0 0) _) => some ([], none, 0)
  | .one (.e0 _ _) => some ([], none, 0)
  | .one .ez => some ([], none, 0)
  | .one (.sl i off len sz) => match liveB hp i with
    | some b => if b.ro = false ∧ b.elem = e ∧ off = 0 ∧ sz = size ∧ len * size = b.cells.length then some (b.cells, some i, len) else none
    | none => none
  | _ => none

/-- What is appended: the cells, how many elements, the block. -/
def newA (hp : List Blk) (size : Nat) : AV → Option (List C1 × Nat × Nat)
  | .one (.sl i off len sz) => match liveB hp i with
    | some b => if off + len * size ≤ b.cells.length ∧ sz = size then some ((b.cells.drop off).take (len * size), len, i) else none
    | none => none
  | _ => none

def killO (hp : List Blk) : Option Nat → List Blk
  | some i => killA hp i
  | none => hp

/-- A live block whose cells are told by a function. -/
def liveS (hp : List Blk) (i : Nat) : Option (Blk × Nat × (Nat → C1)) :=
  match getB hp i with
  | some b => match b.live with
    | true => match b.body with
      | .sy n g => some (b, n, g)
      | _ => none
    | false => none
  | none => none

/-- A live block of elements that are told by a function. -/
def liveR (hp : List Blk) (i : Nat) : Option (Blk × Nat × Nat × (Nat → List C1)) :=
  match getB hp i with
  | some b => match b.live with
    | true => match b.body with
      | .rs n sz f => some (b, n, sz, f)
      | _ => none
    | false => none
  | none => none

def isNilA : AV → Bool
  | .one (.sc (.slice none 0 0) _) => true
  | .one .em => true
  | _ => false

def isSlA : AV → Bool
  | .one (.sc (.slice none 0 0) _) => true
  | .one (.sl _ _ _ _) => true
  | .one (.e0 _ _) => true
  | .one .ez => true
  | _ => false

def appendA (T : Tab) (ts : Array TypeId) (x y : AV) (hp : List Blk) : Option (AV × List Blk) :=
  match ts.toList with
  | [t, u] =>
    match elemT T t with
    | some (e, ei) =>
      if t = u ∧ ei.size ≠ 0 ∧ ei.zero.length = ei.size then
        match isNilA y with
        | true => match isSlA x with
          | true => some (x, hp)
          | false => none
        | false => match oldA hp e ei.size x, newA hp ei.size y with
        | some (cs, src, len), some (ns, m, j) =>
          if m ≠ 0 ∧ src ≠ some j ∧ (len + m) * ei.bytes ≤ 140737488355328 ∧ len + m ≤ maxLen then
            some (.one (.sl hp.length 0 (len + m) ei.size), killO hp src ++ [{ body := .li (cs ++ ns), elem := e, live := true, ro := false }])
          else none
        | _, _ => none
      else none
    | none => none
  | _ => none

/-- An append of a block that is told by a function to nothing. -/
def appendS (T : Tab) (ts : Array TypeId) (x y : AV) (hp : List Blk) : Option (Prop × AV × List Blk) :=
  match ts.toList, oldA hp 0 0 x, y with
  | [t, u], some ([], none, 0), .one (.sl j off len sz) =>
    match elemT T t, liveS hp j with
    | some (e, ei), some (_, n, g) =>
      if t = u ∧ ei.size ≠ 0 ∧ ei.zero.length = ei.size ∧ sz = ei.size then
        some (len ≠ 0 ∧ off + len * sz ≤ n ∧ len * ei.bytes ≤ 140737488355328 ∧ len ≤ maxLen, .one (.sl hp.length 0 len sz),
          hp ++ [{ body := .sy (len * sz) fun k => g (off + k), elem := e, live := true, ro := false }])
      else none
    | _, _ => none
  | _, _, _ => none

/-- The cells of a block as a function: how many, and which. -/
def bodyG : Body → Nat × (Nat → C1)
  | .li [c] => (1, fun _ => c)
  | .li l => (l.length, fun k => l.getD k .em)
  | .sy n g => (n, g)
  | .rs n sz f => (n * sz, fun j => (f (j / sz)).getD (j % sz) .em)
  | .mp _ => (0, fun _ => .em)

def isSyB : Body → Bool
  | .li _ => false
  | .sy _ _ => true
  | .rs _ _ _ => true
  | .mp _ => false

def catG (n : Nat) (g : Nat → C1) (off : Nat) (h : Nat → C1) (k : Nat) : C1 := bif Nat.blt k n then g k else h (off + (k - n))

/-- An append where one of the two blocks is told by a function. -/
def appendT (T : Tab) (ts : Array TypeId) (x y : AV) (hp : List Blk) : Option (Prop × AV × List Blk) :=
  match ts.toList, x, y with
  | [t, u], .one (.sl i 0 len s), .one (.sl j off m sz) =>
    match elemT T t, liveB hp i, liveB hp j with
    | some (e, ei), some b, some b' =>
      if t = u ∧ ei.size ≠ 0 ∧ ei.zero.length = ei.size ∧ s = ei.size ∧ sz = ei.size ∧ i ≠ j ∧ b.ro = false ∧ b.elem = e ∧ (isSyB b.body || isSyB b'.body) = true then
        some (m ≠ 0 ∧ (bodyG b.body).1 = len * s ∧ off + m * sz ≤ (bodyG b'.body).1 ∧ (len + m) * ei.bytes ≤ 140737488355328 ∧ len + m ≤ maxLen, .one (.sl hp.length 0 (len + m) sz),
          killA hp i ++ [{ body := .sy (len * sz + m * sz) (catG (len * sz) (bodyG b.body).2 off (bodyG b'.body).2), elem := e, live := true, ro := false }])
      else none
    | _, _, _ => none
  | _, _, _ => none

/-- The one cell or the other. -/
def pickC (t : Bool) (c d : C1) : C1 :=
  match c, d with
  | .sc (.int k x) _, .sc (.int k' y) _ => if k = k' then .sc (.int k (bif t then x else y)) false else (bif t then c else d)
  | .sc (.float k x) _, .sc (.float k' y) _ => if k = k' then .sc (.float k (bif t then x else y)) false else (bif t then c else d)
  | .sc (.bool x) _, .sc (.bool y) _ => .sc (.bool (bif t then x else y)) false
  | .sc (.complex k x x') _, .sc (.complex k' y y') _ => if k = k' then .sc (.complex k (bif t then x else y) (bif t then x' else y')) false else (bif t then c else d)
  | .fl k, .fl k' => if k = k' then .fl k else (bif t then c else d)
  | .cf k, .cf k' => if k = k' then .cf k else (bif t then c else d)
  | c, d => bif t then c else d

def pickL (t : Bool) : List C1 → List C1 → List C1
  | c :: l, d :: m => pickC t c d :: pickL t l m
  | _, _ => []

/-- Elements, one of them written anew from a cell on. -/
def updR (f : Nat → List C1) (k o : Nat) (cs : List C1) : Nat → List C1 := fun j => pickL (Nat.beq j k) (splice (f k) o cs) (f j)

/-- So many elements, and behind them others. -/
def catR (n : Nat) (f g : Nat → List C1) : Nat → List C1 := fun k => pickL (Nat.blt k n) (f k) (g (k - n))

/-- What an append goes on with, as elements: what must hold, the block, how many, which, whether it is a list grown from nothing. -/
def recX (hp : List Blk) (e : TypeId) (size : Nat) : AV → Option (Prop × Nat × Nat × (Nat → List C1) × Bool)
  | .one (.gr i n s) => match getB hp i with
    | some b => match b.body with
      | .rs n' s' f => if s = size ∧ s' = size ∧ b.elem = e ∧ b.ro = false ∧ b.full = false then some (n' = n ∧ (n = 0 ∨ b.live = true), i, n, f, true) else none
      | _ => none
    | none => none
  | .one (.sl i 0 n s) => match liveR hp i with
    | some (b, n', s', f) => if s = size ∧ s' = size ∧ b.elem = e ∧ b.ro = false then some (n' = n, i, n, f, false) else none
    | none => none
  | _ => none

/-- What is appended, as elements: what must hold, how many, which; the block. -/
def recY (hp : List Blk) (size : Nat) : AV → Option (Prop × Nat × (Nat → List C1) × Option Nat)
  | .one (.lst n _ s f) => if s = size then some (n ≠ 0, n, f, none) else none
  | .one (.sl j off m s) => match liveB hp j with
    | some b => match b.body with
      | .li l => if s = size ∧ m = 1 ∧ off + size ≤ l.length then some (True, 1, fun _ => (l.drop off).take size, some j) else none
      | .rs n' s' f => if s = size ∧ s' = size ∧ off = 0 then some (m ≤ n' ∧ m ≠ 0, m, f, some j) else none
      | .sy n' g => if s = size ∧ size = 1 then some (off + m ≤ n' ∧ m ≠ 0, m, fun k => [g (off + k)], some j) else none
      | .mp _ => none
    | none => none
  | _ => none

def emptyA : AV → Bool
  | .one (.sc (.slice none 0 0) _) => true
  | .one .ez => true
  | _ => false

def deadB : Blk := { body := .li [], elem := 0, live := false, ro := true }

/-- An append of elements. -/
def appendR (T : Tab) (ts : Array TypeId) (x y : AV) (hp : List Blk) : Option (Prop × AV × List Blk) :=
  match ts.toList with
  | [t, u] => match elemT T t with
    | some (e, ei) =>
      if t = u ∧ ei.size ≠ 0 ∧ ei.zero.length = ei.size then
        match recX hp e ei.size x with
        | some (p, i, n, f, gr) => match recY hp ei.size y with
          | some (q, m, g, j) =>
            if j = some i then none else
            some (p ∧ q ∧ (∀ k, (f k).length = ei.size ∧ (g k).length = ei.size) ∧ (n + m) * ei.bytes ≤ 140737488355328 ∧ n + m ≤ maxLen, .one (match gr with | true => .gr hp.length (n + m) ei.size | false => .sl hp.length 0 (n + m) ei.size),
              killA hp i ++ [{ body := .rs (n + m) ei.size (catR n f g), elem := e, live := true, ro := false }])
          | none => none
        | none => match emptyA x, y with
          | true, .one (.lst n _ s f) =>
            if s = ei.size then match T.tr with
              | true => match x with
                | .one (.sc (.slice none 0 0) _) => some (n * ei.bytes ≤ 140737488355328 ∧ n ≤ maxLen, .one (.gr hp.length n ei.size), hp ++ [{ body := .rs n ei.size f, elem := e, live := Nat.blt 0 n, ro := false }])
                | _ => some (n ≠ 0 ∧ n * ei.bytes ≤ 140737488355328 ∧ n ≤ maxLen, .one (.sl hp.length 0 n ei.size), hp ++ [{ body := .rs n ei.size f, elem := e, live := true, ro := false }])
              | false => some (n * ei.bytes ≤ 140737488355328 ∧ n ≤ maxLen, .one (.lst n n ei.size f), hp ++ [deadB])
            else none
          | _, _ => none
      else none
    | none => none
  | _ => none

/-- Cells, cut into elements. -/
def elemsL (l : List C1) (s : Nat) : Nat → List C1 :=
  match Nat.beq l.length s with
  | true => fun _ => l
  | false => fun k => match Nat.blt (k * s) l.length with
    | true => (l.drop (k * s)).take s
    | false => List.replicate s .em

/-- An append of a list that nobody writes to one that is written out. -/
def appendL (T : Tab) (ts : Array TypeId) (x y : AV) (hp : List Blk) : Option (Prop × AV × List Blk) :=
  match ts.toList, x, y with
  | [t, u], .one (.sl i 0 n s), .one (.lst m _ s' f) =>
    match elemT T t, liveB hp i with
    | some (e, ei), some b => match b.body with
      | .li l =>
        if t = u ∧ ei.size ≠ 0 ∧ ei.zero.length = ei.size ∧ s = ei.size ∧ s' = ei.size ∧ b.ro = false ∧ b.elem = e ∧ l.length = n * s ∧ b.full = false then
          some ((∀ k, (f k).length = s) ∧ (n + m) * ei.bytes ≤ 140737488355328 ∧ n + m ≤ maxLen, .one (.sl hp.length 0 (n + m) s),
            killA hp i ++ [{ body := .rs (n + m) s (catR n (elemsL l s) f), elem := e, live := true, ro := false }])
        else none
      | _ => none
    | _, _ => none
  | _, _, _ => none

def appendK (T : Tab) (ts : Array TypeId) (x y : AV) (hp : List Blk) (K : Post) : Prop :=
  match appendR T ts x y hp with
  | some (p, v, hp') => p ∧ K v hp'
  | none => match appendL T ts x y hp with
  | some (p, v, hp') => p ∧ K v hp'
  | none => match appendS T ts x y hp with
  | some (p, v, hp') => p ∧ K v hp'
  | none => match appendT T ts x y hp with
    | some (p, v, hp') => p ∧ K v hp'
    | none => match appendA T ts x y hp with
      | some (v, hp') => K v hp'
      | none => False

/-- The greater, or the smaller, of two floats that can be compared. -/
def fmax (k : FloatKind) (x y : Nat) : Nat :=
  match k.format.order x y with
  | none => 0
  | some .lt => y
  | some .gt => x
  | some .eq => if (k.decode x).neg then y else x

def fmin (k : FloatKind) (x y : Nat) : Nat :=
  match k.format.order x y with
  | none => 0
  | some .lt => x
  | some .gt => y
  | some .eq => if (k.decode x).neg then x else y

def ford (k : FloatKind) (x y : Nat) : Bool := (k.format.order x y).isSome

/-- 'great': the greatest is asked for. -/
def mnmxK (P : Program) (great : Bool) (o : Oper) (xs : List Operand) (tm : Tm) (hp : List Blk) (K : Post) : Prop :=
  match xs with
  | [x, y] => match evalO tm x, evalO tm y with
    | .one (.sc (.float k a) s), .one (.sc (.float k' b) s') =>
      match s && s' with
      | true => scalK P o tm hp K
      | false => if k = k' then ford k a b = true ∧ K (.one (.sc (.float k (match great with | true => fmax k a b | false => fmin k a b)) false)) hp else False
    | _, _ => scalK P o tm hp K
  | _ => scalK P o tm hp K

/-- A float as a whole number. -/
def f2i (k : FloatKind) (b : Nat) : Int := ((k.decode b).toInt .zero).getD 0

def f2iok (k : FloatKind) (b : Nat) (d : IntKind) : Bool :=
  match (k.decode b).toInt .zero with
  | some n => decide (d.min ≤ n) && decide (n ≤ d.max)
  | none => false

def isSy (hp : List Blk) (i : Nat) : Bool :=
  match getB hp i with
  | some b => match b.body with
    | .li _ => false
    | _ => true
  | none => false

def updG (g : Nat → C1) (off : Nat) (c : C1) : Nat → C1 := fun j => pickC (Nat.beq j off) c (g j)

/-- The place of an element. -/
def placeN (off : Nat) (n : Int) (size : Nat) : Nat :=
  match Nat.beq size 1 with
  | true => off + n.toNat
  | false => off + n.toNat * size

def opPick (c a b : Operand) (tm : Tm) (hp : List Blk) (K : Post) : Prop :=
  match evalO tm c with
  | .one (.sc (.bool t) st) => match st with
    | true => match t with
      | true => K (evalO tm a) hp
      | false => K (evalO tm b) hp
    | false => (t = true → K (evalO tm a) hp) ∧ (t = false → K (evalO tm b) hp)
  | _ => False

def opExtract (x : Operand) (ix : Nat) (tm : Tm) (hp : List Blk) (K : Post) : Prop :=
  match evalO tm x with
  | .tup l => match l[ix]? with
    | some (false, [c]) => K (.one c) hp
    | some (true, cs) => K (.agg cs) hp
    | _ => False
  | _ => False

def opAlloc (T : Tab) (e : TypeId) (hp : List Blk) (K : Post) : Prop :=
  match T.ty e with
  | some ti => if ti.zero.isEmpty then False else K (.one (.ptr hp.length 0)) (hp ++ [{ body := .li ti.zero, elem := e, live := true, ro := false }])
  | none => False

def opBox (e : TypeId) (x : Operand) (tm : Tm) (hp : List Blk) (K : Post) : Prop :=
  match (evalO tm x).cells with
  | some cs => K (.one (.ptr hp.length 0)) (hp ++ [{ body := .li cs, elem := e, live := true, ro := false }])
  | none => False

def loadS (T : Tab) (t : TypeId) (hp : List Blk) (n : Nat) (g : Nat → C1) (off : Nat) (K : Post) : Prop :=
  match T.ty t with
  | some ti => match isAggD ti.desc with
    | false => off < n ∧ K (.one (g off)) hp
    | true => off + ti.size ≤ n ∧ K (.agg ((List.range ti.size).map fun j => g (off + j))) hp
  | none => False

/-- What a listed package-level variable holds from a cell on. -/
def laidA (T : Tab) (t : TypeId) (g off : Nat) : Option AV :=
  match laidT g, T.ty t with
  | some vs, some ti => partA ti (vs.map fun v => .sc v true) off
  | _, _ => none

def opLoad (T : Tab) (t : TypeId) (x : Operand) (tm : Tm) (hp : List Blk) (K : Post) : Prop :=
  match evalO tm x with
  | .one (.ptr i off) => match liveS hp i with
    | some (_, n, g) => loadS T t hp n g off K
    | none => match loadA T t hp i off with
      | some v => K v hp
      | none => False
  | .one (.sc (.pointer (some ⟨g, off, none⟩)) _) => match laidA T t g off with
    | some v => K v hp
    | none => False
  | .one (.pl cs o) => match T.ty t with
    | some ti => match Nat.beq ti.size 0 with
      | true => False
      | false => match partA ti cs o with
        | some v => K v hp
        | none => False
    | none => False
  | .one (.pr i k sz o) => match T.ty t, liveR hp i with
    | some ti, some (_, n, sz', f) =>
      match Nat.beq sz sz' && Nat.ble (o + ti.size) sz && Nat.beq (f k).length sz && !Nat.beq ti.size 0 with
      | true => match partA ti (f k) o with
        | some v => k < n ∧ K v hp
        | none => False
      | false => False
    | _, _ => False
  | _ => False

def storeS (hp : List Blk) (i : Nat) (b : Blk) (n : Nat) (g : Nat → C1) (off : Nat) (cs : List C1) (K : Post) : Prop :=
  match b.ro with
  | true => False
  | false => match cs with
    | [c] => off < n ∧ K .undef (setB hp i { b with body := .sy n (updG g off c) })
    | _ => False

def opStore (T : Tab) (t : TypeId) (x y : Operand) (tm : Tm) (hp : List Blk) (K : Post) : Prop :=
  match evalO tm x, (evalO tm y).cells, T.ty t with
  | .one (.ptr i off), some cs, some ti =>
    if cs.length = ti.size ∧ cs.all oneC1 then
      match liveS hp i with
      | some (b, n, g) => storeS hp i b n g off cs K
      | none => match storeA hp i off cs with
        | some hp' => K .undef hp'
        | none => False
    else False
  | .one (.pr i k sz o), some cs, some ti =>
    match liveR hp i with
    | some (b, n, sz', f) =>
      if cs.length = ti.size ∧ cs.all oneC1 ∧ sz = sz' ∧ o + ti.size ≤ sz ∧ (f k).length = sz ∧ b.ro = false then
        k < n ∧ K .undef (setB hp i { b with body := .rs n sz' (updR f k o cs) })
      else False
    | none => False
  | _, _, _ => False

def opNil (x : Operand) (tm : Tm) (hp : List Blk) (K : Post) : Prop :=
  match evalO tm x with
  | .one (.ptr i off) => K (.one (.ptr i off)) hp
  | .one (.sc (.pointer (some p)) st) => K (.one (.sc (.pointer (some p)) st)) hp
  | .one (.pl cs o) => K (.one (.pl cs o)) hp
  | .one (.pr i k sz o) => K (.one (.pr i k sz o)) hp
  | _ => False

/-- A pointer, so many cells further on. -/
def movP (d : Nat) : C1 → Option C1
  | .pl cs o => some (.pl cs (o + d))
  | .pr i k sz o => some (.pr i k sz (o + d))
  | _ => none

def movA (d : Nat) : AV → Option C1
  | .one c => movP d c
  | _ => none

def opFAddr (T : Tab) (s : TypeId) (x : Operand) (f : Nat) (tm : Tm) (hp : List Blk) (K : Post) : Prop :=
  match evalO tm x, T.ty s with
  | .one (.ptr i off), some ti =>
    match ti.desc with
    | .struct fs => match fs[f]? with
      | some fd => match T.ty fd.type with
        | some fi => if fi.size = 0 then False else K (.one (.ptr i (off + fd.offset))) hp
        | none => False
      | none => False
    | _ => False
  | v, some ti =>
    match ti.desc with
    | .struct fs => match fs[f]? with
      | some fd => match T.ty fd.type with
        | some fi => if fi.size = 0 then False else match movA fd.offset v with
          | some c => K (.one c) hp
          | none => False
        | none => False
      | none => False
    | _ => False
  | _, _ => False

def opField (T : Tab) (s : TypeId) (x : Operand) (f : Nat) (tm : Tm) (hp : List Blk) (K : Post) : Prop :=
  match evalO tm x, T.ty s with
  | .agg cs, some ti =>
    match ti.desc with
    | .struct fs => match fs[f]? with
      | some fd => match T.ty fd.type with
        | some fi => match partA fi cs fd.offset with
          | some v => K v hp
          | none => False
        | none => False
      | none => False
    | _ => False
  | _, _ => False

def opIAddr (T : Tab) (t : TypeId) (x ix : Operand) (tm : Tm) (hp : List Blk) (K : Post) : Prop :=
  match evalO tm ix with
  | .one (.sc (.int _ n) st) =>
    match T.ty t, evalO tm x with
    | some ti, .one (.ptr i off) =>
      match ti.desc with
      | .array len e => match T.ty e with
        | some ei => match st with
          | true => if 0 ≤ n ∧ n < len then K (.one (.ptr i (off + n.toNat * ei.size))) hp else False
          | false => (0 ≤ n ∧ n < len) ∧ K (.one (.ptr i (placeN off n ei.size))) hp
        | none => False
      | _ => False
    | some ti, .one (.sc (.pointer (some ⟨g, off, none⟩)) _) =>
      match ti.desc with
      | .array len e => match T.ty e with
        | some ei => match st with
          | true => if 0 ≤ n ∧ n < len then K (.one (.sc (.pointer (some ⟨g, off + n.toNat * ei.size, none⟩)) true)) hp else False
          | false => False
        | none => False
      | _ => False
    | some ti, .one (.sl i off len _) =>
      match ti.desc with
      | .slice e => match T.ty e with
        | some ei => match st && !isSy hp i with
          | true => if 0 ≤ n ∧ n < len then K (.one (.ptr i (off + n.toNat * ei.size))) hp else False
          | false => match liveR hp i with
            | some (_, _, sz, _) => match Nat.beq off 0 && Nat.beq sz ei.size with
              | true => (0 ≤ n ∧ n < len) ∧ K (.one (.pr i n.toNat sz 0)) hp
              | false => False
            | none => (0 ≤ n ∧ n < len) ∧ K (.one (.ptr i (placeN off n ei.size))) hp
        | none => False
      | _ => False
    | some ti, .one (.lst len _ sz f) =>
      match ti.desc with
      | .slice e => match T.ty e with
        | some ei => match Nat.beq sz ei.size with
          | true => (0 ≤ n ∧ n < len) ∧ K (.one (.pl (f n.toNat) 0)) hp
          | false => False
        | none => False
      | _ => False
    | some ti, .one (.gr i len sz) =>
      match ti.desc with
      | .slice e => match T.ty e with
        | some ei => match Nat.beq sz ei.size with
          | true => (0 ≤ n ∧ n < len) ∧ K (.one (.pr i n.toNat sz 0)) hp
          | false => False
        | none => False
      | _ => False
    | some ti, v =>
      match ti.desc with
      | .array len e => match T.ty e with
        | some ei => match st with
          | true => if 0 ≤ n ∧ n < len then match movA (n.toNat * ei.size) v with
            | some c => K (.one c) hp
            | none => False else False
          | false => False
        | none => False
      | _ => False
    | _, _ => False
  | _ => False

def opIndex (P : Program) (T : Tab) (o : Oper) (t : TypeId) (x ix : Operand) (tm : Tm) (hp : List Blk) (K : Post) : Prop :=
  match T.ty t, evalO tm x, litInt (evalO tm ix) with
  | some ti, .agg cs, some (_, n) =>
    match ti.desc with
    | .array len e => match T.ty e with
      | some ei => if 0 ≤ n ∧ n < len then
          match partA ei cs (n.toNat * ei.size) with
          | some v => K v hp
          | none => False
        else False
      | none => False
    | _ => False
  | some _, .one (.sc (.string _) _), some _ => scalK P o tm hp K
  | _, _, _ => False

def opBuild (T : Tab) (t : TypeId) (parts : Array (Nat × Operand)) (tm : Tm) (hp : List Blk) (K : Post) : Prop :=
  match T.ty t with
  | some ti =>
    if ti.zero.isEmpty then False else
    match ti.desc with
    | .struct fs =>
      if !(fs.toList.all fun f => (T.ty f.type).isSome) then False else
      match fillA (fun i => (fs[i]?).bind fun f => (T.ty f.type).map fun fi => (f.offset, fi.size)) ti.zero (parts.toList.map fun p => (p.1, evalO tm p.2)) with
      | some cs => K (.agg cs) hp
      | none => False
    | .array _ e =>
      match T.ty e with
      | some ei =>
        match fillA (fun i => some (i * ei.size, ei.size)) ti.zero (parts.toList.map fun p => (p.1, evalO tm p.2)) with
        | some cs => K (.agg cs) hp
        | none => False
      | none => False
    | _ => False
  | none => False

def opBSlice (T : Tab) (t : TypeId) (len : Nat) (parts : Array (Nat × Operand)) (tm : Tm) (hp : List Blk) (K : Post) : Prop :=
  match T.ty t with
  | some ti =>
    match ti.desc with
    | .slice e => match T.ty e with
      | some ei =>
        if len = 0 ∧ parts.toList.length = 0 then K (.one (.e0 hp.length 0)) (hp ++ [{ body := .li [], elem := e, live := true, ro := false }]) else
        if ei.size = 0 ∨ ei.zero.length ≠ ei.size ∨ len * ei.size > 2 ^ 24 ∨ len = 0 then False else
        match fillA (fun i => some (i * ei.size, ei.size)) (repeatC ei.zero len) (parts.toList.map fun p => (p.1, evalO tm p.2)) with
        | some cs => K (.one (.sl hp.length 0 len ei.size)) (hp ++ [{ body := .li cs, elem := e, live := true, ro := false }])
        | none => False
      | none => False
    | _ => False
  | none => False

def boundO (tm : Tm) : Option Operand → Option (Option (Int × Bool))
  | none => some none
  | some x => match evalO tm x with
    | .one (.sc (.int _ n) st) => some (some (n, st))
    | _ => none

def boundV (d : Int) : Option (Int × Bool) → Int
  | none => d
  | some (a, _) => a

def boundS : Option (Int × Bool) → Bool
  | none => true
  | some (_, st) => st

/-- A part of a list of so many elements. -/
def sliceO (st : Bool) (l h : Int) (n i off sz : Nat) : Option (Option Prop × AV) :=
  match st with
  | true => if 0 ≤ l ∧ l ≤ h ∧ h ≤ n ∧ (l < n ∨ l = 0) then some (none, .one (.sl i (placeN off l sz) (h - l).toNat sz)) else none
  | false => some (some (0 ≤ l ∧ l ≤ h ∧ h ≤ n ∧ (l < n ∨ l = 0)), .one (.sl i (placeN off l sz) (h - l).toNat sz))

def Body.len : Body → Nat
  | .li l => l.length
  | .sy n _ => n
  | .rs n sz _ => n * sz
  | .mp _ => 0

def sliceA (T : Tab) (t : TypeId) (x : Operand) (lo hi mx : Option Operand) (tm : Tm) (hp : List Blk) : Option (Option Prop × AV) :=
  match T.ty t, boundO tm lo, boundO tm hi with
  | some ti, some l, some h =>
    match ti.desc with
    | .array n e => match evalO tm x, T.ty e, mx with
      | .one (.ptr i off), some ei, none => match liveB hp i with
        | some b => if off + n * ei.size ≤ b.body.len ∧ n ≤ maxLen then sliceO (boundS l && boundS h) (boundV 0 l) (boundV n h) n i off ei.size else none
        | none => none
      | _, _, _ => none
    | .slice e => match evalO tm x, T.ty e with
      | .one (.sl i off len sz), some ei => if sz = ei.size then match mx with
          | none => sliceO (boundS l && boundS h && !isSy hp i) (boundV 0 l) (boundV len h) len i off sz
          | some m => match evalO tm m with
            | .one (.sc (.int _ m) true) => if m = 0 ∧ boundV 1 h = 0 ∧ boundV 0 l = 0 then some (none, .one (.e0 i off)) else none
            | _ => none
        else none
      | _, _ => none
    | _ => none
  | _, _, _ => none

/-- A part of a list that nobody writes. -/
def sliceL (T : Tab) (t : TypeId) (x : Operand) (lo hi mx : Option Operand) (tm : Tm) : Option (Option Prop × AV) :=
  match evalO tm x with
  | .one (.lst n N sz f) => match T.ty t, boundO tm lo, boundO tm hi with
    | some ti, some l, some h =>
      match ti.desc with
      | .slice e => match T.ty e with
        | some ei => if sz = ei.size then match mx with
            | none => match l with
              | none => some (some (0 ≤ boundV n h ∧ boundV n h ≤ N), .one (.lst (boundV n h).toNat N sz f))
              | some _ => some (some (0 ≤ boundV 0 l ∧ boundV 0 l ≤ boundV n h ∧ boundV n h ≤ N), .one (.lst (boundV n h - boundV 0 l).toNat (N - (boundV 0 l).toNat) sz (fun k => f ((boundV 0 l).toNat + k))))
            | some m => match evalO tm m with
              | .one (.sc (.int _ m) true) => if m = 0 ∧ boundV 1 h = 0 ∧ boundV 0 l = 0 then some (none, .one .ez) else none
              | _ => none
          else none
        | none => none
      | _ => none
    | _, _, _ => none
  | _ => none

def ptrsA : List AV → Option (List (Nat × Nat))
  | [] => some []
  | .one (.ptr i off) :: l => (ptrsA l).map ((i, off) :: ·)
  | _ => none

def opSlice (P : Program) (T : Tab) (o : Oper) (t : TypeId) (x : Operand) (lo hi mx : Option Operand) (tm : Tm) (hp : List Blk) (K : Post) : Prop :=
  match sliceA T t x lo hi mx tm hp with
  | some (p, v) => match p with
    | some p => p ∧ K v hp
    | none => K v hp
  | none => match sliceL T t x lo hi mx tm with
    | some (p, v) => match p with
      | some p => p ∧ K v hp
      | none => K v hp
    | none => scalK P o tm hp K

/-- The same temporary. -/
def sameO : Operand → Operand → Bool
  | .tmp i, .tmp j => Nat.beq i j
  | _, _ => false

def opMakeSlice (T : Tab) (t : TypeId) (l c : Operand) (tm : Tm) (hp : List Blk) (K : Post) : Prop :=
  match elemT T t, evalO tm l, evalO tm c with
  | some (e, ei), .one (.sc (.int _ a) st), .one (.sc (.int _ b) _) =>
    if ei.size ≠ 0 ∧ ei.zero.length = ei.size then
      (0 ≤ a ∧ a ≤ b ∧ (ei.bytes : Int) * b ≤ 281474976710656 ∧ b ≤ 9223372036854775807) ∧
      match st with
      | true => K (.one (.sl hp.length 0 a.toNat ei.size)) (hp ++ [{ body := .li (repeatC ei.zero a.toNat), elem := e, live := true, ro := false, full := sameO l c }])
      | false => match ei.zero with
        | [z] => K (.one (.sl hp.length 0 a.toNat 1)) (hp ++ [{ body := .sy a.toNat fun _ => z, elem := e, live := true, ro := false, full := sameO l c }])
        | zs => K (.one (.sl hp.length 0 a.toNat ei.size)) (hp ++ [{ body := .rs a.toNat ei.size fun _ => zs, elem := e, live := true, ro := false, full := sameO l c }])
    else False
  | _, _, _ => False

def opMkFunc (fn : Fn) (first caps : Array Operand) (tm : Tm) (hp : List Blk) (K : Post) : Prop :=
  match fn, first.toList with
  | .func f, [] => match ptrsA (caps.toList.map (evalO tm)) with
    | some ps => K (.one (.fn f ps)) hp
    | none => False
  | _, _ => False

def cpyG (g h : Nat → C1) (off off' n k : Nat) : C1 := bif Nat.ble off k && Nat.blt k (off + n) then h (off' + (k - off)) else g k

/-- Elements of one cell, copied. -/
def opCopy (T : Tab) (ts : Array TypeId) (x y : AV) (hp : List Blk) (K : Post) : Prop :=
  match ts.toList, x, y with
  | [t, _], .one (.sl i off len s), .one (.sl j off' m s') =>
    match elemT T t, liveB hp i, liveB hp j with
    | some (_, ei), some b, some b' =>
      if ei.size = 1 ∧ s = 1 ∧ s' = 1 ∧ b.ro = false then
        match b.body, b'.body with
        | .li l, .li l' => if off + Nat.min m len ≤ l.length ∧ off' + Nat.min m len ≤ l'.length then
            K (.one (.sc (.int .i64 (Nat.min m len : Nat)) true)) (setB hp i { b with body := .li (splice l off ((l'.drop off').take (Nat.min m len))) }) else False
        | _, _ => (off + Nat.min m len ≤ (bodyG b.body).1 ∧ off' + Nat.min m len ≤ (bodyG b'.body).1) ∧
            K (.one (.sc (.int .i64 (Nat.min m len : Nat)) false)) (setB hp i { b with body := .sy (bodyG b.body).1 (cpyG (bodyG b.body).2 (bodyG b'.body).2 off off' (Nat.min m len)) })
      else False
    | _, _, _ => False
  | _, _, _ => False

def opCall (P : Program) (T : Tab) (o : Oper) (c : Call) (tm : Tm) (hp : List Blk) (K : Post) : Prop :=
  match c.callee with
  | .builtin .append =>
    match c.args.toList with
    | [x, y] => appendK T c.argTypes (evalO tm x) (evalO tm y) hp K
    | _ => False
  | .builtin .len =>
    match c.args.toList with
    | [x] => match evalO tm x, (c.argTypes[0]?).bind T.ty with
      | .one (.sl i _ len _), some ti => match ti.desc with
        | .slice _ => K (.one (.sc (.int .i64 len) (!isSy hp i))) hp
        | _ => False
      | .one .em, some ti => match ti.desc with
        | .slice _ => K (.one (.sc (.int .i64 0) true)) hp
        | _ => False
      | .one (.lst n _ _ _), some ti => match ti.desc with
        | .slice _ => K (.one (.sc (.int .i64 n) false)) hp
        | _ => False
      | .one (.gr _ n _), some ti => match ti.desc with
        | .slice _ => K (.one (.sc (.int .i64 n) false)) hp
        | _ => False
      | _, _ => scalK P o tm hp K
    | _ => False
  | .builtin .copy =>
    match c.args.toList with
    | [x, y] => opCopy T c.argTypes (evalO tm x) (evalO tm y) hp K
    | _ => False
  | .builtin .min => mnmxK P false o c.args.toList tm hp K
  | .builtin .max => mnmxK P true o c.args.toList tm hp K
  | .builtin b => match b with
    | .real | .imag | .complex => scalK P o tm hp K
    | _ => False
  | _ => False

/-- Bytes that are written out. -/
def byteL : List C1 → Option (List Int)
  | [] => some []
  | c :: l => match c with
    | .sc v st => match st with
      | true => match v with
        | .int k n => match k with
          | .u8 => match byteL l with
            | some ns => some (n :: ns)
            | none => none
          | _ => none
        | _ => none
      | false => none
    | _ => none

def bytesA (hp : List Blk) (i off len : Nat) : Option (List Int) :=
  match liveB hp i with
  | some b => match b.body with
    | .li l => if off + len ≤ l.length then byteL ((l.drop off).take len) else none
    | _ => none
  | none => none

def isBytesT (T : Tab) (s d : TypeId) : Bool :=
  match T.ty s, T.ty d with
  | some si, some di => match si.desc, di.desc with
    | .slice e, .string => match T.ty e with
      | some ei => match ei.desc with
        | .int k => match k with
          | .u8 => true
          | _ => false
        | _ => false
      | none => false
    | _, _ => false
  | _, _ => false

/-- Bytes as a string. -/
def opBStr (P : Program) (T : Tab) (o : Oper) (s d : TypeId) (i off len : Nat) (tm : Tm) (hp : List Blk) (K : Post) : Prop :=
  match isBytesT T s d with
  | true => match bytesA hp i off len with
    | some ns => K (.one (.sc (.string (ns.foldl (fun r n => r.push (UInt8.ofNat n.toNat)) ByteArray.empty)) true)) hp
    | none => False
  | false => scalK P o tm hp K

def opConv (P : Program) (T : Tab) (o : Oper) (s d : TypeId) (x : Operand) (tm : Tm) (hp : List Blk) (K : Post) : Prop :=
  match evalO tm x, T.ty s, T.ty d with
  | .one (.sl i off len sz), some _, some _ => match Nat.beq sz 1 with
    | true => opBStr P T o s d i off len tm hp K
    | false => scalK P o tm hp K
  | .one (.sc (.int _ n) st), some _, some ti => match ti.desc with
    | .int k => K (.one (.sc (.int k (k.wrap n)) st)) hp
    | _ => scalK P o tm hp K
  | .one (.sc (.float s n) false), some _, some ti => match ti.desc with
    | .int k => f2iok s n k = true ∧ K (.one (.sc (.int k (f2i s n)) false)) hp
    | _ => scalK P o tm hp K
  | _, _, _ => scalK P o tm hp K

/-- A map: the list of its keys and what they hold. -/
def mapL (hp : List Blk) (i : Nat) : Option (List (Int × C1)) :=
  match getB hp i with
  | some b => match b.body with
    | .mp l => some l
    | _ => none
  | none => none

/-- Where a key stands. -/
def keyAt (k : Int) : List (Int × C1) → Nat → Option (Nat × C1)
  | [], _ => none
  | p :: l, j => match decide (k = p.1) with
    | true => some (j, p.2)
    | false => keyAt k l (j + 1)

def isIntMap (T : Tab) (t : TypeId) : Bool :=
  match T.ty t with
  | some ti => match ti.desc with
    | .map k _ => match T.ty k with
      | some ki => match ki.desc with
        | .int .i64 => true
        | _ => false
      | none => false
    | _ => false
  | none => false

def mapB (l : List (Int × C1)) : Blk := { body := .mp l, elem := 0, live := false, ro := true }

def opMakeMap (r : Option Operand) (hp : List Blk) (K : Post) : Prop :=
  match r with
  | none => K (.one (.mp hp.length)) (hp ++ [mapB []])
  | some _ => False

def litI (v : AV) : Option Int :=
  match v with
  | .one (.sc (.int .i64 n) true) => some n
  | _ => none

def opMapPut (T : Tab) (t : TypeId) (m k x : Operand) (tm : Tm) (hp : List Blk) (K : Post) : Prop :=
  match evalO tm m, litI (evalO tm k), evalO tm x with
  | .one (.mp i), some n, .one c => match isIntMap T t, mapL hp i with
    | true, some l => match keyAt n l 0 with
      | some (j, _) => K .undef (setB hp i (mapB (l.set j (n, c))))
      | none => K .undef (setB hp i (mapB (l ++ [(n, c)])))
    | _, _ => False
  | _, _, _ => False

def opMapGet (T : Tab) (t : TypeId) (m k : Operand) (ok : Bool) (tm : Tm) (hp : List Blk) (K : Post) : Prop :=
  match evalO tm m, litI (evalO tm k) with
  | .one (.mp i), some n => match isIntMap T t && !ok, mapL hp i with
    | true, some l => match keyAt n l 0 with
      | some (_, c) => K (.one c) hp
      | none => False
    | _, _ => False
  | _, _ => False

/-- One operation that is no call of a Go function. -/
def opK0 (P : Program) (T : Tab) (o : Oper) (tm : Tm) (hp : List Blk) (K : Post) : Prop :=
  match o.op with
  | .move x | .assign x => K (evalO tm x) hp
  | .pick c a b => opPick c a b tm hp K
  | .extract x ix => opExtract x ix tm hp K
  | .alloc e => opAlloc T e hp K
  | .box e x => opBox e x tm hp K
  | .load t x => opLoad T t x tm hp K
  | .store t x y => opStore T t x y tm hp K
  | .nilCheck x => opNil x tm hp K
  | .fieldAddr s x f => opFAddr T s x f tm hp K
  | .field s x f => opField T s x f tm hp K
  | .indexAddr t x ix => opIAddr T t x ix tm hp K
  | .index t x ix => opIndex P T o t x ix tm hp K
  | .build t parts => opBuild T t parts tm hp K
  | .buildSlice t len parts => opBSlice T t len parts tm hp K
  | .slice t x lo hi mx => opSlice P T o t x lo hi mx tm hp K
  | .makeFunc fn first caps => opMkFunc fn first caps tm hp K
  | .makeSlice t l c => opMakeSlice T t l c tm hp K
  | .call c => opCall P T o c tm hp K
  | .binOp op t x y _ => binK P T t op o (evalO tm x) (evalO tm y) tm hp K
  | .convert s d x => opConv P T o s d x tm hp K
  | .unOp .. => scalK P o tm hp K
  | .makeInterface .. => scalK P o tm hp K
  | .makeMap _ r => opMakeMap r hp K
  | .mapUpdate t m k x | .insert t m k x => opMapPut T t m k x tm hp K
  | .lookup t m k ok => opMapGet T t m k ok tm hp K
  | _ => False

/-- A float or a complex number: complex?, its kind, any? -/
def anyC : AV → Option (Bool × FloatKind × Bool)
  | .one c => match c with
    | .fl k => some (false, k, true)
    | .cf k => some (true, k, true)
    | .sc v _ => match v with
      | .float k _ => some (false, k, false)
      | .complex k _ _ => some (true, k, false)
      | _ => none
    | _ => none
  | _ => none

/-- What an operation on numbers one of which may be any comes to. -/
def anyBin (af : Bool) (op : BinOp) (x y : AV) : Option C1 :=
  match isArith op with
  | false => none
  | true => match anyC x with
    | none => none
    | some (c, k, n) => match anyC y with
      | none => none
      | some (c', k', n') => match n || n' || af with
        | false => none
        | true => if c = c' ∧ k = k' ∧ (c = true → k = .f64) then some (match c with | true => .cf k | false => .fl k) else none

/-- A part of any complex number; one made of any floats. -/
def anyPart (b : Builtin) (l : List AV) : Option C1 :=
  match b with
  | .real | .imag => match l with
    | [.one (.cf k)] => some (.fl k)
    | _ => none
  | .complex => match l with
    | [x, y] => match anyC x with
      | some (false, k, n) => match anyC y with
        | some (false, k', n') => match n || n' with
          | false => none
          | true => if k = k' then some (.cf k) else none
        | _ => none
      | _ => none
    | _ => none
  | _ => none

def anyOp (T : Tab) (o : Oper) (tm : Tm) : Option C1 :=
  match o.op with
  | .binOp op _ x y _ => anyBin T.af op (evalO tm x) (evalO tm y)
  | .call c => match c.callee with
    | .builtin b => match b with
      | .real | .imag | .complex => anyPart b (c.args.toList.map (evalO tm))
      | _ => none
    | _ => none
  | _ => none

/-- One operation that is no call of a Go function; of numbers one of which may be any, the outcome may be any. -/
def opK (P : Program) (T : Tab) (o : Oper) (tm : Tm) (hp : List Blk) (K : Post) : Prop :=
  match anyOp T o tm with
  | some c => K (.one c) hp
  | none => opK0 P T o tm hp K

/-- The call of a Go function by its number. -/
def callee? (o : Oper) : Option (FuncId × List Operand) :=
  match o.op with
  | .call c => match c.callee with
    | .value (.func f) => some (f, c.args.toList)
    | _ => none
  | _ => none

/-- The call of a function, its arguments: by its number, or by a value. -/
def calleeA (tm : Tm) (o : Oper) : Option (FuncId × List AV) :=
  match callee? o with
  | some (f, xs) => some (f, xs.map (evalO tm))
  | none => match o.op with
    | .call c => match c.callee with
      | .value (.tmp t) => match getT tm t with
        | .one (.fn f ps) => some (f, c.args.toList.map (evalO tm) ++ ps.map fun p => .one (.ptr p.1 p.2))
        | _ => none
      | _ => none
    | _ => none

/-- The one cell or the other. -/
def mergeC (t : Bool) : C1 → C1 → Option C1
  | .sc (.int k x) _, .sc (.int k' y) _ => if k = k' then some (.sc (.int k (bif t then x else y)) false) else none
  | .sc (.bool x) _, .sc (.bool y) _ => some (.sc (.bool (bif t then x else y)) false)
  | .sc (.float k x) _, .sc (.float k' y) _ => if k = k' then some (.sc (.float k (bif t then x else y)) false) else none
  | _, _ => none

def mergeCs (t : Bool) : List C1 → List C1 → Option (List C1)
  | [], [] => some []
  | c :: l, d :: m => match mergeC t c d, mergeCs t l m with
    | some e, some r => some (e :: r)
    | _, _ => none
  | _, _ => none

def storeP (hp : List Blk) (t : Bool) (i off : Nat) (cs : List C1) : Option (List Blk) :=
  match liveB hp i with
  | some b => match mergeCs t cs ((b.cells.drop off).take cs.length) with
    | some ds => storeA hp i off ds
    | none => none
  | none => none

/-- A store that takes place if a condition holds. -/
def storePK (T : Tab) (c : Bool) (t : TypeId) (x y : Operand) (tm : Tm) (hp : List Blk) (K : Post) : Prop :=
  match evalO tm x, (evalO tm y).cells, T.ty t with
  | .one (.ptr i off), some cs, some ti =>
    if cs.length = ti.size ∧ cs.all oneC1 then
      match storeP hp c i off cs with
      | some hp' => K .undef hp'
      | none => False
    else False
  | _, _, _ => False

def Fns.under (F : Fns) (t : Bool) : Fns := { F.quiet with pr := some (match F.pr with
  | none => t
  | some c => c && t) }

/-- One operation, a call of a pure function among them. -/
def stepK (P : Program) (T : Tab) (F : Fns) (o : Oper) (tm : Tm) (hp : List Blk) (K : Post) : Prop :=
  match calleeA tm o with
  | some (f, xs) => match F.pure f xs hp with
    | some v => K v hp
    | none => match F.pre f xs hp with
      | some (p, v) => p ∧ K v hp
      | none => match F.ext f xs with
        | some (p, v) => match p with
          | some p => p ∧ K v hp
          | none => K v hp
        | none => match F.gen f xs hp with
          | some (v, hp') => K v hp'
          | none => match F.gnp f xs hp with
            | some (p, v, hp') => p ∧ K v hp'
            | none => F.cal f xs hp K
  | none => match F.pr with
    | none => opK P T o tm hp K
    | some c => match o.op with
      | .store t x y => storePK T c t x y tm hp K
      | _ => opK P T o tm hp K

def dstOf (ops : List Oper) (j : Nat) : Option Tmp :=
  match ops, j with
  | [], _ => none
  | o :: _, 0 => o.dst
  | _ :: l, j + 1 => dstOf l j

def quietOp (o : Oper) : Bool :=
  match o.op with
  | .move _ | .assign _ | .pick .. | .load .. | .nilCheck _ | .binOp .. | .unOp .. | .convert .. | .fieldAddr .. | .field .. | .indexAddr .. | .index .. | .extract .. | .build .. | .slice .. | .makeFunc .. | .makeInterface .. => true
  | .call c => match c.callee with
    | .value _ => true
    | .builtin .len | .builtin .min | .builtin .max | .builtin .real | .builtin .imag | .builtin .complex => true
    | _ => false
  | _ => false

/-- The one value or the other. -/
def mergeA (t : Bool) : AV → AV → AV
  | .one (.sc (.int k x) _), .one (.sc (.int k' y) _) => if k = k' then .one (.sc (.int k (bif t then x else y)) false) else .bad
  | .one (.sc (.bool x) _), .one (.sc (.bool y) _) => .one (.sc (.bool (bif t then x else y)) false)
  | .one (.sc (.float k x) _), .one (.sc (.float k' y) _) => if k = k' then .one (.sc (.float k (bif t then x else y)) false) else .bad
  | _, _ => .bad

/-- A value under a condition: temporary 'i' holds 'v' if each of these temporaries has yielded such a Bool, and else nothing. -/
structure Ent where
  i : Nat
  p : List (Nat × Bool)
  v : AV

def beqB : Bool → Bool → Bool
  | true, b => b
  | false, true => false
  | false, false => true

def beqP : List (Nat × Bool) → List (Nat × Bool) → Bool
  | [], [] => true
  | (a, b) :: l, (c, d) :: m => match Nat.beq a c with
    | true => match beqB b d with
      | true => beqP l m
      | false => false
    | false => false
  | _, _ => false

/-- Does the one condition end in the other? -/
def sufP (p : List (Nat × Bool)) : List (Nat × Bool) → Bool
  | [] => match p with
    | [] => true
    | _ => false
  | x :: q => match beqP p (x :: q) with
    | true => true
    | false => sufP p q

def findE : List Ent → Nat → Option Ent
  | [], _ => none
  | e :: l, i => match Nat.beq e.i i with
    | true => some e
    | false => findE l i

def memP (d : Nat) : List (Nat × Bool) → Bool
  | [] => false
  | x :: l => match Nat.beq x.1 d with
    | true => true
    | false => memP d l

def dropE (d : Nat) : List Ent → List Ent
  | [] => []
  | e :: l => match Nat.beq e.i d with
    | true => dropE d l
    | false => match memP d e.p with
      | true => dropE d l
      | false => e :: dropE d l

def dropO (d : Option Tmp) (ce : List Ent) : List Ent :=
  match d with
  | some d => dropE d ce
  | none => ce

def pathE (ce : List Ent) (d : Nat) : List (Nat × Bool) :=
  match findE ce d with
  | some e => e.p
  | none => []

def openT (ce : List Ent) (q : List (Nat × Bool)) : List Operand → Tm → Tm
  | [], tm => tm
  | .tmp t :: l, tm => match findE ce t with
    | some e => match sufP e.p q with
      | true => openT ce q l (setT tm t e.v)
      | false => openT ce q l tm
    | none => openT ce q l tm
  | _ :: l, tm => openT ce q l tm

def pickV (ce : List Ent) (r : List (Nat × Bool)) (tm : Tm) (c a b : Operand) : Option AV :=
  match c with
  | .tmp t =>
    match getT (openT ce r [.tmp t] tm) t with
    | .one (.sc (.bool g) st) =>
      match st with
      | true => match g with
        | true => some (evalO (openT ce ((t, true) :: pathE ce t) [a] tm) a)
        | false => some (evalO (openT ce ((t, false) :: pathE ce t) [b] tm) b)
      | false => match mergeA g (evalO (openT ce ((t, true) :: pathE ce t) [a] tm) a) (evalO (openT ce ((t, false) :: pathE ce t) [b] tm) b) with
        | .one c => some (.one c)
        | _ => none
    | _ => none
  | _ => none

/-- A pick, where it can be told by one value. -/
def pickO (T : Tab) (ce : List Ent) (r : List (Nat × Bool)) (tm : Tm) (o : Oper) : Option AV :=
  match T.mg with
  | true => match o.op with
    | .pick c a b => pickV ce r tm c a b
    | _ => none
  | false => none

/-- An operation under a condition. -/
def underK (P : Program) (T : Tab) (F : Fns) (ce : List Ent) (q : List (Nat × Bool)) (o : Oper) (tm : Tm) (hp : List Blk) (K : List Ent → Tm → Prop) : Prop :=
  match o.dst with
  | none => False
  | some d => match Nat.blt d tm.n && !memP d q with
    | false => False
    | true => match pickO T ce q tm o with
      | some v => K (⟨d, q, v⟩ :: dropE d ce) (setT tm d .bad)
      | none => stepK P T F.quiet o (openT ce q o.op.operands.toList tm) hp fun v _ => K (⟨d, q, v⟩ :: dropE d ce) (setT tm d .bad)

/-- The operations of a region, in the order of the text. -/
def listK (P : Program) (T : Tab) (F : Fns) (ops : List Oper) : List Oper → List Ent → Tm → List Blk → List Sg → (Tm → List Blk → List Sg → Prop) → Prop
  | [], _, tm, hp, orc, K => K tm hp orc
  | o :: rest, ce, tm, hp, orc, K =>
    match o.guard with
    | none => match pickO T ce [] tm o with
      | some v => listK P T F ops rest (dropO o.dst ce) (putT tm o.dst v) hp orc K
      | none => stepK P T F o tm hp fun v hp' => fixA o v orc fun v orc => listK P T F ops rest (dropO o.dst ce) (putT tm o.dst v) hp' orc K
    | some (j, want) =>
      match dstOf ops j with
      | none => False
      | some d =>
        match findE ce d with
        | some e => match quietOp o with
          | true => underK P T F ce ((d, want) :: e.p) o tm hp fun ce tm => listK P T F ops rest ce tm hp orc K
          | false => False
        | none =>
        match getT tm d with
        | .one (.sc (.bool b) st) => match st with
          | true => match b == want with
            | true => stepK P T F o tm hp fun v hp' => fixA o v orc fun v orc => listK P T F ops rest (dropO o.dst ce) (putT tm o.dst v) hp' orc K
            | false => listK P T F ops rest (dropO o.dst ce) (putT tm o.dst .undef) hp orc K
          | false => match T.mg && quietOp o with
            | true => underK P T F ce [(d, want)] o tm hp fun ce tm => listK P T F ops rest ce tm hp orc K
            | false => guess b orc fun g orc' =>
              match g == want with
              | true => stepK P T F o (setT tm d (.one (.sc (.bool g) true))) hp fun v hp' => fixA o v orc' fun v orc' => listK P T F ops rest (dropO o.dst ce) (putT (setT tm d (.one (.sc (.bool g) true))) o.dst v) hp' orc' K
              | false => listK P T F ops rest (dropO o.dst ce) (putT (setT tm d (.one (.sc (.bool g) true))) o.dst .undef) hp orc' K
        | .undef => listK P T F ops rest (dropO o.dst ce) (putT tm o.dst .undef) hp orc K
        | _ => False

/-- The head of a region, in the order of the text; what follows is told the conditions too. -/
def listH (P : Program) (T : Tab) (F : Fns) (ops : List Oper) : List Oper → List Ent → Tm → List Blk → List Sg → (List Ent → Tm → List Blk → List Sg → Prop) → Prop
  | [], ce, tm, hp, orc, K => K ce tm hp orc
  | o :: rest, ce, tm, hp, orc, K =>
    match o.guard with
    | none => match pickO T ce [] tm o with
      | some v => listH P T F ops rest (dropO o.dst ce) (putT tm o.dst v) hp orc K
      | none => stepK P T F o tm hp fun v _ => fixA o v orc fun v orc => listH P T F ops rest (dropO o.dst ce) (putT tm o.dst v) hp orc K
    | some (j, want) =>
      match dstOf ops j with
      | none => False
      | some d =>
        match findE ce d with
        | some e => match quietOp o with
          | true => underK P T F ce ((d, want) :: e.p) o tm hp fun ce tm => listH P T F ops rest ce tm hp orc K
          | false => False
        | none =>
        match getT tm d with
        | .one (.sc (.bool b) st) => match st with
          | true => match b == want with
            | true => stepK P T F o tm hp fun v _ => fixA o v orc fun v orc => listH P T F ops rest (dropO o.dst ce) (putT tm o.dst v) hp orc K
            | false => listH P T F ops rest (dropO o.dst ce) (putT tm o.dst .undef) hp orc K
          | false => match T.mg && quietOp o with
            | true => underK P T F ce [(d, want)] o tm hp fun ce tm => listH P T F ops rest ce tm hp orc K
            | false => guess b orc fun g orc' =>
              match g == want with
              | true => stepK P T F o (setT tm d (.one (.sc (.bool g) true))) hp fun v _ => fixA o v orc' fun v orc' => listH P T F ops rest (dropO o.dst ce) (putT (setT tm d (.one (.sc (.bool g) true))) o.dst v) hp orc' K
              | false => listH P T F ops rest (dropO o.dst ce) (putT (setT tm d (.one (.sc (.bool g) true))) o.dst .undef) hp orc' K
        | .undef => listH P T F ops rest (dropO o.dst ce) (putT tm o.dst .undef) hp orc K
        | _ => False

def waitsOn (ops : List Oper) (j i : Nat) : Bool :=
  match ops[j]? with
  | some o => o.after.any fun e => Region.binds .any e && e.on == i
  | none => false

/-- May a region that draws its order be walked in the order of the text? Behind the first 'n' operations each waits for the one ahead of it, and for each of these some later one up to the 'n'-th waits. -/
def tailWaits (ops : List Oper) (n : Nat) : Bool :=
  ((List.range (ops.length - n - 1)).all fun j => waitsOn ops (n + j + 1) (n + j)) &&
  (Nat.beq n ops.length || (List.range n).all fun k => (List.range (n - k)).any fun d => waitsOn ops (k + 1 + d) k)

def backEdges (ops : List Oper) : Bool :=
  (List.range ops.length).all fun j => match ops[j]? with
    | some o => o.after.all fun e => !Region.binds .any e || decide (e.on < j)
    | none => false

/-- Does each guard look back? -/
def guardBack (ops : List Oper) : Bool :=
  (List.range ops.length).all fun j => match ops[j]? with
    | some o => match o.guard with
      | some (i, _) => decide (i < j)
      | none => true
    | none => false

/-- How many operations at the head of a region are quiet. -/
def headLen : List Oper → Nat
  | [] => 0
  | o :: l => if quietOp o then headLen l + 1 else 0

/-- An operation that looks at the temporaries alone. -/
def silentOp (o : Oper) : Bool :=
  match o.op, o.guard with
  | .move _, none => true
  | _, _ => false

/-- Does an operation wait for nothing, and does whatever does not wait for it leave it alone? -/
def looseOp (ops : List Oper) (i : Nat) : Bool :=
  match ops[i]? with
  | some o => silentOp o && o.after.all (fun e => !Region.binds .any e) && (List.range ops.length).all fun j => Nat.beq j i || waitsOn ops j i || (match ops[j]? with
    | some oj => o.apart ops.toArray oj
    | none => true)
  | none => false

/-- The same as 'tailWaits', but for loose operations. -/
def tailWaits2 (ops : List Oper) (n : Nat) : Bool :=
  ((List.range (ops.length - n - 1)).all fun j => waitsOn ops (n + j + 1) (n + j)) &&
  (Nat.beq n ops.length || (List.range n).all fun k => looseOp ops k || (List.range (n - k)).any fun d => waitsOn ops (k + 1 + d) k)

def drawOk2 (ops : List Oper) (n : Nat) : Bool :=
  Nat.ble n ops.length && (ops.take n).all quietOp && Region.noSelect ops.toArray && Region.lexB .any (ops.take n).toArray && backEdges ops && guardBack ops && tailWaits2 ops n

/-- An operation that looks at the temporaries alone: a move, the place of a field. -/
def silentT (T : Tab) (o : Oper) : Bool :=
  match o.guard with
  | none => match o.op with
    | .move _ => true
    | .fieldAddr s _ f => match T.ty s with
      | some ti => match ti.desc with
        | .struct fs => match fs[f]? with
          | some fd => match T.ty fd.type with
            | some fi => !Nat.beq fi.size 0
            | none => false
          | none => false
        | _ => false
      | none => false
    | _ => false
  | some _ => false

/-- Does whatever does not wait for an operation leave it alone? -/
def aloneOp (ops : List Oper) (i : Nat) (o : Oper) : Bool :=
  (List.range ops.length).all fun j => Nat.beq j i || waitsOn ops j i || (match ops[j]? with
    | some oj => o.apart ops.toArray oj
    | none => true)

def looseT (T : Tab) (ops : List Oper) (i : Nat) : Bool :=
  match ops[i]? with
  | some o => silentT T o && o.after.all (fun e => !Region.binds .any e) && aloneOp ops i o
  | none => false

/-- The same, but for loose operations of the head. -/
def aloneL (T : Tab) (ops : List Oper) (n i : Nat) (o : Oper) : Bool :=
  (List.range ops.length).all fun j => Nat.beq j i || waitsOn ops j i || (looseT T ops j && Nat.blt j n) || (match ops[j]? with
    | some oj => o.apart ops.toArray oj
    | none => true)

/-- Behind the first 'n' operations each waits for the one ahead of it. -/
def chainOk (ops : List Oper) (n : Nat) : Bool := (List.range (ops.length - n - 1)).all fun j => waitsOn ops (n + j + 1) (n + j)

def noGuard (o : Oper) : Bool :=
  match o.guard with
  | none => true
  | some _ => false

/-- A load of something of one cell. -/
def loadOne (T : Tab) (o : Oper) : Bool :=
  match o.guard with
  | none => match o.op with
    | .load t _ => match T.ty t with
      | some ti => !isAggD ti.desc
      | none => false
    | _ => false
  | some _ => false

/-- May operation 'i' of the head, a load, come late, up to operation 'm'? -/
def lateOk (T : Tab) (ops : List Oper) (n i m : Nat) : Bool :=
  Nat.ble n ops.length && (ops.take n).all quietOp && Region.noSelect ops.toArray && Region.lexB .any (ops.take n).toArray && backEdges ops && guardBack ops && chainOk ops n &&
  ((List.range n).all fun k => looseT T ops k || Nat.beq k i || (List.range (n - k)).any fun d => waitsOn ops (k + 1 + d) k) &&
  Nat.blt i n && Nat.ble n m && waitsOn ops m i && ((ops.drop n).take (m - n)).all noGuard &&
  match ops[i]? with
  | some o => loadOne T o && o.after.all (fun e => !Region.binds .any e || looseT T ops e.on) && aloneL T ops n i o
  | none => false

/-- Nobody writes what is there. -/
def roBody : Body → Body
  | .mp _ => .li []
  | b => b
def roB (b : Blk) : Blk := { b with ro := true, body := roBody b.body }
def roH (hp : List Blk) : List Blk := hp.map roB

/-- What was there, and what has come. -/
def newB (b : Blk) : Blk := match b.ro with
  | true => { b with live := false }
  | false => b
def backH (hp hp2 : List Blk) : List Blk := hp ++ (hp2.drop hp.length).map newB

/-- Operations that come one behind the other. -/
def lateK (P : Program) (T : Tab) (F : Fns) : List Oper → List Ent → Tm → List Blk → (List Ent → Tm → List Blk → Prop) → Prop
  | [], ce, tm, hp, K => K ce tm hp
  | o :: rest, ce, tm, hp, K => stepK P T F o tm hp fun v hp' => lateK P T F rest (dropO o.dst ce) (putT tm o.dst v) hp' K

/-! ### regions in parts -/

def hasB (m i : Nat) : Bool := Nat.beq (Nat.land (Nat.shiftRight m i) 1) 1
def addB (m i : Nat) : Nat := Nat.lor m (Nat.shiftLeft 1 i)

/-- For what an operation waits, directly and through others; 'A': what is known of the others. -/
def ancFold (A : List Nat) : List Edge → Nat
  | [] => 0
  | e :: l => match Region.binds .any e with
    | true => Nat.lor (addB (A.getD e.on 0) e.on) (ancFold A l)
    | false => ancFold A l

def ancs (ops : List Oper) : List Nat → List Nat → List Nat
  | [], A => A
  | j :: r, A => ancs ops r (A.set j (match ops[j]? with
    | some o => ancFold A o.after.toList
    | none => 0))

def ancOk (ops : List Oper) (A : List Nat) : Bool := (List.range ops.length).all fun j => match ops[j]? with
  | some o => Nat.beq (Nat.lor (A.getD j 0) (ancFold A o.after.toList)) (ancFold A o.after.toList)
  | none => Nat.beq (A.getD j 0) 0

def aftersIn (M : Nat) (o : Oper) : Bool := o.after.toList.all fun e => !Region.binds .any e || hasB M e.on

/-- Is operation 'j' the only one that stands ready where those of 'M' are listed? -/
def onlyJ (ops : List Oper) (A : List Nat) (M j : Nat) : Bool :=
  Nat.blt j ops.length && !hasB M j && (match ops[j]? with
    | some o => aftersIn M o
    | none => false) && (List.range ops.length).all fun i => hasB M i || Nat.beq i j || hasB (A.getD i 0) j

def seqOk (ops : List Oper) (A : List Nat) : Nat → List Nat → Option Nat
  | M, [] => some M
  | M, j :: r => match onlyJ ops A M j with
    | true => seqOk ops A (addB M j) r
    | false => none

def noCallee (o : Oper) : Bool :=
  match o.op with
  | .call c => match c.callee with
    | .value _ => false
    | _ => true
  | _ => true

def earlyOne (ops : List Oper) (A : List Nat) (W M i : Nat) : Bool :=
  Nat.blt i ops.length && !hasB M i && hasB W i && (match ops[i]? with
    | some o => quietOp o && noCallee o && aftersIn M o && (List.range ops.length).all fun j => hasB M j || Nat.beq j i || hasB (A.getD j 0) i || (match ops[j]? with
      | some oj => o.apart ops.toArray oj
      | none => true)
    | none => false)

/-- An operation that looks at the temporaries alone. -/
def silentG (o : Oper) : Bool :=
  match o.op with
  | .move _ | .assign _ | .extract _ _ => true
  | _ => false

/-- An operation on values without memory, it may be. -/
def scalG (o : Oper) : Bool :=
  match o.op with
  | .binOp .. | .unOp .. | .convert .. | .index .. => true
  | _ => false

def silOne (ops : List Oper) (A : List Nat) (M i : Nat) : Bool :=
  Nat.blt i ops.length && !hasB M i && (match ops[i]? with
    | some o => (silentG o || scalG o) && aftersIn M o && (List.range ops.length).all fun j => hasB M j || Nat.beq j i || hasB (A.getD j 0) i || (match ops[j]? with
      | some oj => o.apart ops.toArray oj
      | none => true)
    | none => false)

def silOk (ops : List Oper) (A : List Nat) : Nat → List Nat → Option Nat
  | M, [] => some M
  | M, i :: r => match silOne ops A M i with
    | true => silOk ops A (addB M i) r
    | false => none

def earlyOk (ops : List Oper) (A : List Nat) (W : Nat) : Nat → List Nat → Option Nat
  | M, [] => some M
  | M, i :: r => match earlyOne ops A W M i with
    | true => earlyOk ops A W (addB M i) r
    | false => none

def chainOne (ops : List Oper) (A : List Nat) (W M c : Nat) (r : List Nat) : Bool :=
  Nat.blt c ops.length && !hasB M c && hasB W c && (match ops[c]? with
    | some o => noGuard o && aftersIn M o
    | none => false) && r.all fun c' => hasB (A.getD c' 0) c

def chainC (ops : List Oper) (A : List Nat) (W : Nat) : Nat → List Nat → Option Nat
  | M, [] => some M
  | M, c :: r => match chainOne ops A W M c r with
    | true => chainC ops A W (addB M c) r
    | false => none

/-- A new variable that may be made at any time. -/
def alOne (ops : List Oper) (W M k : Nat) (cs : List Nat) : Bool :=
  Nat.blt k ops.length && !hasB M k && hasB W k && (match ops[k]? with
    | some o => noGuard o && (match o.op with
      | .alloc _ => true
      | _ => false) && (match o.dst with
      | some _ => true
      | none => false) && o.after.toList.all (fun e => !Region.binds .any e) && cs.all fun c => match ops[c]? with
        | some oc => o.apart ops.toArray oc
        | none => false
    | none => false)

def maskL : List Nat → Nat
  | [] => 0
  | i :: r => addB (maskL r) i

def optL : Option Nat → List Nat
  | some k => [k]
  | none => []

/-- A part: what is listed behind it. -/
def winOk (ops : List Oper) (A : List Nat) (M : Nat) : Win → Option Nat
  | .s js => seqOk ops A M js
  | .g qs js => match silOk ops A M qs with
    | some MQ => seqOk ops A MQ js
    | none => none
  | .f qs cs al =>
    let W := maskL (qs ++ cs ++ optL al)
    match earlyOk ops A W M qs with
    | none => none
    | some MQ => match chainC ops A W MQ cs with
      | none => none
      | some MC => match (match al with
          | none => true
          | some k => alOne ops W MC k cs) with
        | false => none
        | true => match (List.range ops.length).all fun j => (hasB (maskL (optL al)) j || hasB MC j) || Nat.beq (Nat.land (A.getD j 0) W) W with
          | true => some (match al with
            | none => MC
            | some k => addB MC k)
          | false => none

def winOps : Win → List Nat
  | .s js => js
  | .g qs js => qs ++ js
  | .f qs cs al => qs ++ cs ++ optL al

def winsOk (ops : List Oper) (A : List Nat) : Nat → List Win → Option Nat
  | M, [] => some M
  | M, v :: r => match winOk ops A M v with
    | some M' => winsOk ops A M' r
    | none => none

def winsA (ops : List Oper) (ws : List Win) : List Nat := ancs ops (ws.flatMap winOps) (List.replicate ops.length 0)

def fullB (ops : List Oper) (M : Nat) : Bool := (List.range ops.length).all fun j => hasB M j

def partsOk (ops : List Oper) (ws : List Win) : Bool :=
  let A := winsA ops ws
  Nat.ble (ws.flatMap winOps).length ops.length && ancOk ops A && Region.noSelect ops.toArray && match winsOk ops A 0 ws with
    | some M => fullB ops M
    | none => false

/-- Is an operation under a guard wanted? -/
def guardK (ops : List Oper) (o : Oper) (tm : Tm) (orc : List Sg) (K : Bool → Tm → List Sg → Prop) : Prop :=
  match o.guard with
  | none => K true tm orc
  | some (j, want) => match dstOf ops j with
    | none => False
    | some d => match getT tm d with
      | .one (.sc (.bool b) st) => match st with
        | true => K (b == want) tm orc
        | false => guess b orc fun g orc' => K (g == want) (setT tm d (.one (.sc (.bool g) true))) orc'
      | .undef => K false tm orc
      | _ => False

def earlyK (P : Program) (T : Tab) (ops : List Oper) (hp : List Blk) : List Nat → Tm → List Sg → (Tm → List Sg → Prop) → Prop
  | [], tm, orc, K => K tm orc
  | i :: r, tm, orc, K => match ops[i]? with
    | none => False
    | some o => guardK ops o tm orc fun g tm orc => match g with
      | true => opK0 P T o tm hp fun v _ => fixA o v orc fun v orc => earlyK P T ops hp r (putT tm o.dst v) orc K
      | false => earlyK P T ops hp r (putT tm o.dst .undef) orc K

def earlyS (P : Program) (T : Tab) (ops : List Oper) (hp : List Blk) : List Nat → Tm → List Sg → (Tm → List Sg → Prop) → Prop
  | [], tm, orc, K => K tm orc
  | i :: r, tm, orc, K => match ops[i]? with
    | none => False
    | some o => guardK ops o tm orc fun g tm orc => match g with
      | true => match silentG o with
        | true => opK0 P T o tm hp fun v _ => fixA o v orc fun v orc => earlyS P T ops hp r (putT tm o.dst v) orc K
        | false => scalK P o tm hp fun v _ => fixA o v orc fun v orc => earlyS P T ops hp r (putT tm o.dst v) orc K
      | false => earlyS P T ops hp r (putT tm o.dst .undef) orc K

def lateW (P : Program) (T : Tab) (F : Fns) (ops : List Oper) : List Nat → Tm → List Blk → List Sg → (Tm → List Blk → List Sg → Prop) → Prop
  | [], tm, hp, orc, K => K tm hp orc
  | c :: r, tm, hp, orc, K => match ops[c]? with
    | none => False
    | some o => stepK P T F o tm (roH hp) fun v hp2 => fixA o v orc fun v orc => lateW P T F ops r (putT tm o.dst v) (backH hp hp2) orc K

/-- What a new variable comes to. -/
def alK (T : Tab) (ops : List Oper) (k : Nat) (K : Tmp → Blk → Prop) : Prop :=
  match ops[k]? with
  | none => False
  | some o => match o.op, o.dst with
    | .alloc e, some d => match T.ty e with
      | some ti => match ti.zero.isEmpty with
        | true => False
        | false => K d { body := .li ti.zero, elem := e, live := true, ro := false }
      | none => False
    | _, _ => False

def getOps (ops : List Oper) : List Nat → List Oper
  | [] => []
  | j :: r => match ops[j]? with
    | some o => o :: getOps ops r
    | none => getOps ops r

def isNilH : List Blk → Bool
  | [] => true
  | _ => false

def winK (P : Program) (T : Tab) (F : Fns) (ops : List Oper) : List Win → Tm → List Blk → List Sg → (Tm → List Blk → List Sg → Prop) → Prop
  | [], tm, hp, orc, K => K tm hp orc
  | .s js :: r, tm, hp, orc, K => listK P T F ops (getOps ops js) [] tm hp orc fun tm hp orc => winK P T F ops r tm hp orc K
  | .g qs js :: r, tm, hp, orc, K => earlyS P T ops hp qs tm orc fun tm orc => listK P T F ops (getOps ops js) [] tm hp orc fun tm hp orc => winK P T F ops r tm hp orc K
  | .f qs cs al :: r, tm, hp, orc, K => match al with
    | none => earlyK P T ops hp qs tm orc fun tm orc => lateW P T F ops cs tm hp orc fun tm hp orc => winK P T F ops r tm hp orc K
    | some k => match isNilH hp with
      | true => False
      | false => alK T ops k fun d b => earlyK P T ops hp qs tm orc fun tm orc => match Nat.blt d tm.n with
        | false => False
        | true => lateW P T F ops cs (setT tm d .bad) hp orc fun tm hp orc => winK P T F ops r (setT tm d (.one (.ptr hp.length 0))) (hp ++ [b]) orc K

def drawOk (ops : List Oper) : Bool :=
  let n := headLen ops
  Region.lexB .any (ops.take n).toArray && backEdges ops && guardBack ops && tailWaits ops n

def semiOp (o : Oper) : Bool :=
  match o.op with
  | .store .. => true
  | _ => quietOp o

/-- Code that ends at its end, makes no memory and calls nothing that changes any. -/
def quietC : Code → Bool
  | .skip => true
  | .region _ ops _ => ops.toList.all semiOp
  | .seq a b => quietC a && quietC b
  | .cond _ a b => quietC a && quietC b
  | _ => false

def dstsL : List Oper → List Nat → List Nat
  | [], l => l
  | o :: ops, l => match o.dst with
    | some d => d :: dstsL ops l
    | none => dstsL ops l

/-- The temporaries that a piece of code writes. -/
def dstsC : Code → List Nat → List Nat
  | .region _ ops _, l => dstsL ops.toList l
  | .seq a b, l => dstsC a (dstsC b l)
  | .cond _ a b, l => dstsC a (dstsC b l)
  | .block _ a, l => dstsC a l
  | _, l => l

/-- Code that changes no memory and does not go round. -/
def leanC : Code → Bool
  | .skip | .ret | .exit _ => true
  | .region _ ops _ => ops.toList.all quietOp
  | .seq a b => leanC a && leanC b
  | .cond _ a b => leanC a && leanC b
  | .block _ a => leanC a
  | _ => false

/-- Are the ways through a block to meet again at its end? -/
def joinAt (lean : Bool) (orc : List Sg) : Option (List Sg) :=
  match lean with
  | false => none
  | true => match orc with
    | .j :: r => some r
    | _ => none

/-- Nothing is known any more of these temporaries. -/
def forgetT : List Nat → Tm → Tm
  | [], tm => tm
  | d :: l, tm => setT (forgetT l tm) d .bad

def mergeTm (t : Bool) : List Nat → Tm → Tm → Tm
  | [], _, b => b
  | d :: l, a, b => setT (mergeTm t l a b) d (mergeA t (getT a d) (getT b d))

def resA (T : Tab) (tm : Tm) (hp : List Blk) : ResultVar → Option AV
  | .tmp t => some (getT tm t)
  | .cell a t => match getT tm a with
    | .one (.ptr i off) => loadA T t hp i off
    | _ => none

def tupOf : List AV → Option (List (Bool × List C1))
  | [] => some []
  | v :: l => match v, tupOf l with
    | .one c, some r => some ((false, [c]) :: r)
    | .agg cs, some r => some ((true, cs) :: r)
    | _, _ => none

def resL (T : Tab) (tm : Tm) (hp : List Blk) : List ResultVar → Option (List AV)
  | [] => some []
  | r :: l => match resA T tm hp r, resL T tm hp l with
    | some v, some vs => some (v :: vs)
    | _, _ => none

def resultA (T : Tab) (fn : Func) (tm : Tm) (hp : List Blk) : Option AV :=
  match resL T tm hp fn.results.toList with
  | some [v] => some v
  | some vs => (tupOf vs).map .tup
  | none => none

/-- A call walked in place: 'co' tells for each function whether it may be, and the signs of the walk. -/
def callWith (T : Tab) (F : Fns) (code : Code → Tm → List Blk → List Sg → (Ex → Tm → List Blk → List Sg → Prop) → Prop) : FuncId → List AV → List Blk → Post → Prop := fun f args hp K =>
  match F.co f with
  | none => False
  | some orc => match T.fn f with
    | none => False
    | some fn => match fn.body with
      | none => False
      | some c => if fn.ntmps ≤ 4000 ∧ args.length ≤ fn.ntmps then code c (ofArgs 0 args ⟨fn.ntmps, .leaf⟩) hp orc fun x tm' hp' _ =>
          match x with
          | .exit _ => False
          | _ => match resultA T fn tm' hp' with
            | some v => K v hp'
            | none => False
        else False

def Fns.withCal (F : Fns) (c : FuncId → List AV → List Blk → Post → Prop) : Fns := { F with cal := c }

/-- May a region that draws its order be walked at once? -/
def plainR (dr : Bool) (ops : List Oper) (orc : List Sg) : Bool :=
  ops.all semiOp && (!dr || (ops.all noCallee && drawOk ops) || match orc with
    | .f _ :: _ => false
    | _ => true)

def codeK (P : Program) (T : Tab) (F : Fns) : Nat → Code → Tm → List Blk → List Sg → (Ex → Tm → List Blk → List Sg → Prop) → Prop
  | 0, _, _, _, _, _ => False
  | n + 1, c, tm, hp, orc, K =>
    match c with
    | .skip => K .normal tm hp orc
    | .ret => K .ret tm hp orc
    | .exit id => K (.exit id) tm hp orc
    | .region _ ops draw =>
      match draw with
      | true => match plainR F.dr ops.toList orc with
        | true => match drawOk ops.toList with
          | true => listK P T F.quiet ops.toList ops.toList [] tm hp orc (K .normal)
          | false => False
        | false => match orc with
          | .d n' :: r => match drawOk2 ops.toList n' with
            | true => listH P T F.quiet ops.toList (ops.toList.take n') [] tm hp r fun ce tm hp orc => listK P T (F.withCal (callWith T F (codeK P T F n))) ops.toList (ops.toList.drop n') ce tm hp orc (K .normal)
            | false => False
          | .f ws :: r => match partsOk ops.toList ws with
            | true => winK P T (F.withCal (callWith T F (codeK P T F n))) ops.toList ws tm hp r (K .normal)
            | false => False
          | .e n' i' m' :: r => match lateOk T ops.toList n' i' m' with
            | true => listH P T F.quiet ops.toList (ops.toList.take n') [] tm hp r fun ce tm hp orc => lateK P T (F.withCal (callWith T F (codeK P T F n))) ((ops.toList.drop n').take (m' - n')) ce tm (roH hp) fun ce tm hp2 =>
                listK P T (F.withCal (callWith T F (codeK P T F n))) ops.toList (ops.toList.drop m') ce tm (backH hp hp2) orc (K .normal)
            | false => False
          | orc => match drawOk ops.toList with
            | true => listK P T F.quiet ops.toList ops.toList [] tm hp orc (K .normal)
            | false => False
      | false => listK P T (F.withCal (callWith T F (codeK P T F n))) ops.toList ops.toList [] tm hp orc (K .normal)
    | .seq a b => codeK P T F n a tm hp orc fun x tm' hp' orc' =>
        match x with
        | .normal => codeK P T F n b tm' hp' orc' K
        | x => K x tm' hp' orc'
    | .cond c a b =>
      match evalO tm c with
      | .one (.sc (.bool t) st) => match st with
        | true => match t with
          | true => codeK P T F n a tm hp orc K
          | false => codeK P T F n b tm hp orc K
        | false => match mergeAt (quietC a && quietC b) orc with
          | some r => codeK P T (F.under t) n a tm hp [] fun _ tmA hpA _ => codeK P T (F.under (!t)) n b tm hpA [] fun _ tmB hpB _ => K .normal (mergeTm t (dstsC a (dstsC b [])) tmA tmB) hpB r
          | none => guess t orc fun g orc' => match g with
            | true => codeK P T F n a tm hp orc' K
            | false => codeK P T F n b tm hp orc' K
      | _ => False
    | .block id c => match joinAt (leanC c) orc with
      | some r => codeK P T F.quiet n c tm hp [] (fun x tm' _ _ => match x with
          | .normal => True
          | .exit i => match Nat.beq i id with
            | true => True
            | false => K (.exit i) tm' hp r
          | .ret => K .ret tm' hp r) ∧ K .normal (forgetT (dstsC c []) tm) hp r
      | none => codeK P T F n c tm hp orc fun x tm' hp' orc' =>
        match x with
        | .exit i => if i == id then K .normal tm' hp' orc' else K (.exit i) tm' hp' orc'
        | x => K x tm' hp' orc'
    | .loop c => match orc with
      | .l k :: r => match F.loops k with
        | some (c', f) => match f tm hp with
          | some (p, x, tm', hp') => c = c' ∧ p ∧ K x tm' hp' r
          | none => False
        | none => False
      | .u :: r => codeK P T F n c tm hp r fun x tm' hp' orc' =>
        match x with
        | .normal => codeK P T F n (.loop c) tm' hp' orc' K
        | x => K x tm' hp' orc'
      | orc => codeK P T F n c tm hp orc fun x tm' hp' orc' =>
        match x with
        | .normal => codeK P T F n (.loop c) tm' hp' orc' K
        | x => K x tm' hp' orc'
    | _ => False

/-- A call, walked: the arguments, the memory, and what is asked of the result. -/
@[irreducible] def runK (P : Program) (T : Tab) (F : Fns) (n : Nat) (fn : Func) (args : List AV) (hp : List Blk) (orc : List Sg) (K : Option AV → List Blk → Prop) : Prop :=
  match fn.body with
  | some c => if fn.ntmps ≤ 4000 ∧ args.length ≤ fn.ntmps then codeK P T F n c (ofArgs 0 args ⟨fn.ntmps, .leaf⟩) hp orc fun x tm' hp' _ =>
    match x with
    | .exit _ => False
    | _ => K (resultA T fn tm' hp') hp'
    else False
  | none => False

end Sm
