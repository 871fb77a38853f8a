/- DERIVED. NO CLAIM IN IT. A plain machine over data: what the translation's code does, told over numbers, lists and small heaps. Definitions alone. -/
import Derived.Calls
set_option linter.unusedVariables false
namespace Go.AM

/-! ### Shapes of data -/
inductive Ty where
  | int (k : IntKind) | bool | str | sl (e : Ty) | st (f : Ty) | nil | cons (a b : Ty)
  deriving DecidableEq

@[reducible] def El : Ty → Type
  | .int _ => Int
  | .bool => Bool
  | .str => ByteArray
  | .sl e => List (El e)
  | .st f => El f
  | .nil => Unit
  | .cons a b => El a × El b

def zel : (t : Ty) → El t
  | .int _ => (0 : Int)
  | .bool => false
  | .str => (⟨#[]⟩ : ByteArray)
  | .sl _ => []
  | .st f => zel f
  | .nil => ()
  | .cons a b => (zel a, zel b)

def csz : Ty → Nat
  | .int _ | .bool | .str | .sl _ => 1
  | .st f => csz f
  | .nil => 0
  | .cons a b => csz a + csz b

/-- Are there no slices in it? -/
def flat : Ty → Bool
  | .sl _ => false
  | .st f => flat f
  | .cons a b => flat a && flat b
  | _ => true

inductive DV where
  | un
  | dat (t : Ty) (x : El t)
  | raw (v : Value)
  | ptr (n off : Nat)
  | fp (t : Ty) (x : El t) (off : Nat)
  | ep (n sz : Nat) (i : Int) (off : Nat)
  | sl (n : Nat)
  | sw (n sz : Nat) (lo hi : Int)
  | e0
  | mp (n : Nat)
  | agg (cs : List DV)
  | ifc (t : TypeId) (d : DV)
  | clo (f : Fn) (first cap : List DV)
  | tup (ds : List DV)
  | ub

inductive Blk where
  | dead
  | cells (T : TypeId) (cs : List DV)
  | arr (T : TypeId) (t : Ty) (xs : List (El t))
  | row (e : TypeId) (t : Ty) (xs : List (El t))
  | rowD (e : TypeId) (sz : Nat) (xs : List (List DV))
  | map (T : TypeId) (es : List (Int × DV))

abbrev Heap := List Blk
abbrev Env := List (Nat × DV)

/-! ### Reading lists at whole numbers -/
def rd {α : Type} (z : α) (xs : List α) (i : Int) : α := xs.getD i.toNat z
/-- Element i's cells, in a row of cells. -/
def ins {α : Type} (xs : List α) (i : Int) : Bool := decide (0 ≤ i) && decide (i < (xs.length : Int))

/-! ### Cells -/
def unp : (t : Ty) → El t → List DV
  | .int k, x => [.dat (.int k) x]
  | .bool, x => [.dat .bool x]
  | .str, x => [.dat .str x]
  | .sl e, x => [.dat (.sl e) x]
  | .st f, x => unp f x
  | .nil, _ => []
  | .cons a b, x => unp a x.1 ++ unp b x.2

def castEl {a : Ty} (b : Ty) (x : El a) : Option (El b) := if h : a = b then some (h ▸ x) else none

/-- One cell's data. -/
def leaf (t : Ty) : DV → Option (El t)
  | .dat t' x => castEl t x
  | .raw (.slice none 0 0) => match t with | .sl _ => some [] | _ => none
  | .e0 => match t with | .sl _ => some [] | _ => none
  | _ => none

def pk : (t : Ty) → List DV → Option (El t × List DV)
  | .st f, l => pk f l
  | .nil, l => some ((), l)
  | .cons a b, l => match pk a l with
    | some (x, r) => match pk b r with
      | some (y, r') => some ((x, y), r')
      | none => none
    | none => none
  | .int k, l => match l with | d :: r => (match leaf (.int k) d with | some x => some (x, r) | none => none) | [] => none
  | .bool, l => match l with | d :: r => (match leaf .bool d with | some x => some (x, r) | none => none) | [] => none
  | .str, l => match l with | d :: r => (match leaf .str d with | some x => some (x, r) | none => none) | [] => none
  | .sl e, l => match l with | d :: r => (match leaf (.sl e) d with | some x => some (x, r) | none => none) | [] => none

/-- So many elements out of cells. -/
def packN (t : Ty) : Nat → List DV → Option (List (El t))
  | 0, [] => some []
  | 0, _ :: _ => none
  | n + 1, l => match pk t l with
    | some (x, r) => (match packN t n r with
      | some xs => some (x :: xs)
      | none => none)
    | none => none

def cellsOf : DV → List DV
  | .dat (.st f) x => unp f x
  | .agg cs => cs
  | d => [d]

def pack (t : Ty) (cs : List DV) : Option (El t) := match pk t cs with | some (x, []) => some x | _ => none

/-- A value as data of a shape. -/
def toEl (t : Ty) (d : DV) : Option (El t) :=
  match d with
  | .dat _ x => castEl t x
  | .agg cs => (match t with
    | .st f => pack f cs
    | _ => none)
  | d => leaf t d

def oneV : Value → Bool
  | .agg _ | .tuple _ => false
  | _ => true

/-- Is it no value whose cells are known? -/
def isUn : DV → Bool
  | .un => true
  | .tup _ => true
  | .raw v => !oneV v
  | _ => false

/-! ### Types of the program, as shapes -/
def chain : List Ty → Ty
  | [] => .nil
  | [a] => a
  | a :: r => .cons a (chain r)

def codeOf (P : Program) : Nat → TypeId → Option Ty
  | 0, _ => none
  | n + 1, t =>
    match P.underlying t with
    | some (.int k) => some (.int k)
    | some .bool => some .bool
    | some .string => some .str
    | some (.slice e) => (codeOf P n e).map .sl
    | some (.struct fs) => (fs.toList.mapM fun f => codeOf P n f.type).map fun l => .st (chain l)
    | some (.array k e) => (codeOf P n e).map fun c => .st (chain (List.replicate k c))
    | _ => none

def code (P : Program) (t : TypeId) : Option Ty := codeOf P 12 t

def aggT (P : Program) (t : TypeId) : Bool :=
  match P.underlying t with
  | some (.struct _) | some (.array _ _) => true
  | _ => false

/-- Cells as one value. -/
def mkAgg (P : Program) (t : TypeId) (cs : List DV) : DV :=
  match code P t with
  | some (.st f) => match pack f cs with
    | some x => .dat (.st f) x
    | none => .agg cs
  | _ => .agg cs

def mkVal (P : Program) (t : TypeId) (cs : List DV) : DV :=
  bif aggT P t then mkAgg P t cs else match cs with | [d] => d | _ => .un

/-! ### Operands -/
def look : Env → Nat → DV
  | [], _ => .un
  | (m, d) :: r, n => bif Nat.beq m n then d else look r n

def ofConst : Value → DV
  | .int k n => .dat (.int k) n
  | .bool b => .dat .bool b
  | .string s => .dat .str s
  | v => .raw v

def opd (env : Env) : Operand → DV
  | .tmp t => look env t
  | .const v => ofConst v
  | .global g => .raw (.pointer (some ⟨g, 0, none⟩))
  | .func f => .raw (.func (.func f) #[] #[])

def isAggD : DV → Bool
  | .dat (.st _) _ => true
  | .agg _ => true
  | _ => false

/-- Is a value known, and of so many cells? -/
def sized (d : DV) (n : Nat) : Bool := !isUn d && Nat.beq (cellsOf d).length n

def zeroCells (P : Program) (t : TypeId) : List DV :=
  match (P.info? t).bind (·.zero) with
  | some v => v.cells.toList.map ofConst
  | none => []
end Go.AM
