/- DERIVED. NO CLAIM IN IT. The plain machine: its operations and its steps. Definitions alone. -/
import Derived.Test.YteopbgebpgchfaaAmDef
import Derived.Stop.Asserts
set_option linter.unusedVariables false
namespace Go.AM

/-- What a call of a function comes to, told by its data. -/
structure Spec where
  cps : {R : Type} → List DV → Nat → (DV → List Blk → Option R) → Option R
  den : List DV → Nat → DV → List Blk → Prop
  nd : ∀ args nx d news, den args nx d news → ∀ B ∈ news, B ≠ Blk.dead
  ok : ∀ {R : Type} (args : List DV) (nx : Nat) (K : DV → List Blk → Option R) (r : R), cps args nx K = some r → ∃ d news, den args nx d news ∧ K d news = some r

structure Ctx where
  P : Program
  S : Nat → Option Spec
  EQ : List TypeId
  X : Nat → Option (List DV → Option DV) := fun _ => none

mutual
def nameless : DV → Bool
  | .dat _ _ | .raw _ | .fp _ _ _ | .e0 => true
  | .agg cs => namelessL cs
  | .ifc _ d => nameless d
  | .tup ds => namelessL ds
  | .clo _ a b => namelessL a && namelessL b
  | _ => false
def namelessL : List DV → Bool
  | [] => true
  | d :: r => nameless d && namelessL r
end

def bitsD (op : BinOp) (k : IntKind) (a b : Int) : Option Int :=
  let x := BitVec.ofInt k.bits a
  let y := BitVec.ofInt k.bits b
  match op with
  | .and => some (k.wrap (x &&& y).toNat)
  | .or => some (k.wrap (x ||| y).toNat)
  | .xor => some (k.wrap (x ^^^ y).toNat)
  | .andNot => some (k.wrap (x &&& ~~~y).toNat)
  | _ => none

/-- The function of a function value, what stands ahead of and behind its arguments. -/
def fnOf : DV → Option (Nat × List DV × List DV)
  | .raw (.func (.func f) a b) => bif a.isEmpty && b.isEmpty then some (f, [], []) else none
  | .clo (.func f) a b => some (f, a, b)
  | _ => none

/-- The function that a method of an interface value is, and its receiver. -/
def methodT (P : Program) (recv : DV) (name : String) : Option (Nat × DV) :=
  match recv with
  | .ifc t d => (match P.info? t, P.underlying t with
    | some i, some u => (match i.methods.find? (·.name == name) with
      | some m => (match m.path.toList, m.func with
        | [], some (f, p) => (match u with
          | .pointer _ => bif p then some (f, d) else none
          | _ => bif p then none else some (f, d))
        | _, _ => none)
      | none => none)
    | _, _ => none)
  | _ => none

def live (O : Heap) (n : Nat) : Bool :=
  match O[n]? with
  | some .dead => false
  | some _ => true
  | none => false

def ptrOk (O : Heap) : DV → Bool
  | .ptr n _ => live O n
  | .ep n _ _ _ => live O n
  | .fp _ _ _ => true
  | d => (fnOf d).isSome

section
variable {R : Type}

def intBin (op : BinOp) (k k' : IntKind) (a b : Int) (K : DV → Option R) : Option R :=
  match op with
  | .shl => bif decide (b < 0) then none else K (.dat (.int k) (k.wrap (a * 2 ^ min b.toNat k.bits)))
  | .shr => bif decide (b < 0) then none else K (.dat (.int k) (a.fdiv (2 ^ min b.toNat k.bits)))
  | op => bif decide (k = k') then
    match op with
    | .add => K (.dat (.int k) (k.wrap (a + b)))
    | .sub => K (.dat (.int k) (k.wrap (a - b)))
    | .mul => K (.dat (.int k) (k.wrap (a * b)))
    | .quo => bif b == 0 then none else K (.dat (.int k) (k.wrap (a.tdiv b)))
    | .rem => bif b == 0 then none else K (.dat (.int k) (a.tmod b))
    | .eql => K (.dat .bool (a == b))
    | .neq => K (.dat .bool (a != b))
    | .lss => K (.dat .bool (decide (a < b)))
    | .leq => K (.dat .bool (decide (a ≤ b)))
    | .gtr => K (.dat .bool (decide (a > b)))
    | .geq => K (.dat .bool (decide (a ≥ b)))
    | op => match bitsD op k a b with
      | some n => K (.dat (.int k) n)
      | none => none
    else none

/-- Equality of what has no slices in it. -/
def eqEl : (t : Ty) → El t → El t → Option Bool
  | .int _, x, y => some ((x : Int) == y)
  | .bool, x, y => some ((x : Bool) == y)
  | .str, x, y => some ((x : ByteArray) == y)
  | .sl _, _, _ => none
  | .st f, x, y => eqEl f x y
  | .nil, _, _ => some true
  | .cons a b, x, y => match eqEl a x.1 y.1, eqEl b x.2 y.2 with
    | some p, some q => some (p && q)
    | _, _ => none

def eqD (C : Ctx) (T : TypeId) (cst : Bool) (x y : DV) : Option Bool :=
  match x, y with
  | .dat .bool a, .dat .bool b => (match C.P.underlying T with
    | some .bool => some ((a : Bool) == b)
    | _ => none)
  | .dat .str a, .dat .str b => some ((a : ByteArray).toList == (b : ByteArray).toList)
  | .dat (.st f) a, .dat t b => bif C.EQ.contains T && decide (code C.P T = some (.st f)) then
      match castEl (.st f) b with
      | some b => eqEl f a b
      | none => none
    else none
  | .raw .nilIface, .raw .nilIface => (match C.P.underlying T with
    | some (.interface _) => bif cst then some true else none
    | _ => none)
  | .ifc _ _, .raw .nilIface => (match C.P.underlying T with
    | some (.interface _) => some false
    | _ => none)
  | .raw .nilIface, .ifc _ _ => (match C.P.underlying T with
    | some (.interface _) => some false
    | _ => none)
  | .ifc tx x, .ifc ty y => (match C.P.underlying T with
    | some (.interface _) => bif Nat.beq tx ty then
        (match C.P.info? tx, C.P.underlying tx, x, y with
        | some i, some .string, .dat .str a, .dat .str b => bif i.comparable then some ((a : ByteArray) == (b : ByteArray)) else none
        | some i, some (.int _), .dat (.int k) a, .dat (.int k') b => bif i.comparable && decide (k = k') then some ((a : Int) == b) else none
        | _, _, _, _ => none) else some false
    | _ => none)
  | _, _ => none

def isCst : Operand → Bool
  | .const _ => true
  | _ => false

def binD (C : Ctx) (op : BinOp) (T : TypeId) (cst : Bool) (x y : DV) (K : DV → Option R) : Option R :=
  match x, y with
  | .dat (.int k) a, .dat (.int k') b => intBin op k k' a b K
  | x, y => match op with
    | .eql => match eqD C T cst x y with | some b => K (.dat .bool b) | none => none
    | .neq => match eqD C T cst x y with | some b => K (.dat .bool (!b)) | none => none
    | _ => none

/-- Is it a comparison of a slice with the literal nil? -/
def nilCmp (P : Program) (T : TypeId) (y : Operand) : Bool :=
  match P.underlying T, y with
  | some (.slice _), .const (.slice none 0 0) => true
  | _, _ => false

/-- A slice compared with nil: of one without elements nobody knows. -/
def nilK (op : BinOp) (x : DV) (O : Heap) (K : DV → Option R) : Option R :=
  match op with
  | .eql => (match x with
    | .raw (.slice none 0 0) => K (.dat .bool true)
    | .dat (.sl _) xs => bif xs.isEmpty then K .ub else K (.dat .bool false)
    | .sl n => (match O[n]? with
      | some (.row _ _ xs) => bif xs.isEmpty then K .ub else K (.dat .bool false)
      | _ => none)
    | _ => none)
  | .neq => (match x with
    | .raw (.slice none 0 0) => K (.dat .bool false)
    | .dat (.sl _) xs => bif xs.isEmpty then K .ub else K (.dat .bool true)
    | .sl n => (match O[n]? with
      | some (.row _ _ xs) => bif xs.isEmpty then K .ub else K (.dat .bool true)
      | _ => none)
    | _ => none)
  | _ => none

def unD (op : UnOp) (x : DV) (K : DV → Option R) : Option R :=
  match op, x with
  | .neg, .dat (.int k) a => K (.dat (.int k) (k.wrap (0 - a)))
  | .not, .dat .bool b => K (.dat .bool (!b))
  | _, _ => none

/-- Parts laid into cells. -/
def fillD (place : Nat → Option (Nat × Nat)) (cs : List DV) : List (Nat × DV) → Option (List DV)
  | [] => some cs
  | (i, d) :: r => match place i with
    | none => none
    | some (off, sz) =>
      bif sized d sz && Nat.ble (off + sz) cs.length then fillD place (cs.take off ++ (cellsOf d ++ cs.drop (off + sz))) r else none

def zerosN (zc : List DV) (n : Nat) : List DV := (List.range n).map fun i => zc.getD (i % zc.length) .un

/-- A variable's block. -/
def varBlk (P : Program) (T : TypeId) (cs : List DV) : Blk :=
  match P.underlying T with
  | some (.array n e) => (match code P e with
    | some c => (match packN c n cs with
      | some xs => bif Nat.beq (csz c) (P.cellsOf e) && Nat.blt 0 n then .arr T c xs else .cells T cs
      | none => .cells T cs)
    | none => .cells T cs)
  | _ => .cells T cs

def placesOf (P : Program) (t : TypeId) : Nat → Option (Nat × Nat) :=
  match P.underlying t with
  | some (.struct fs) => fun i => (fs[i]?).map fun f => (f.offset, P.cellsOf f.type)
  | some (.array n e) => fun i => some (i * P.cellsOf e, P.cellsOf e)
  | _ => fun _ => none

def fieldsOk (P : Program) (t : TypeId) : Bool :=
  match P.underlying t with
  | some (.struct fs) => fs.toList.all fun f => (P.underlying f.type).isSome
  | some (.array _ e) => (P.underlying e).isSome
  | _ => false

def partD (P : Program) (t : TypeId) (cs : List DV) (off : Nat) : DV :=
  mkVal P t ((cs.drop off).take (P.cellsOf t))

/-- The part of a slice's elements from lo to below hi. -/
def sub {α : Type} (xs : List α) (lo hi : Int) : List α := (xs.take hi.toNat).drop lo.toNat

def limit (bytes : Nat) (n : Int) : Bool := decide (n * bytes ≤ 140737488355328)

/-- The data of an address's cells. -/
def cellsAt (O : Heap) (t : Nat) : DV → List DV
  | .ptr n off => match O[n]? with
    | some (.cells _ cs) => (cs.drop off).take t
    | _ => []
  | .fp c x off => ((unp c x).drop off).take t
  | .ep n z i off => match O[n]? with
    | some (.row _ c xs) => bif Nat.beq z (csz c) then ((unp c (rd (zel c) xs i)).drop off).take t else []
    | some (.arr _ c xs) => bif Nat.beq z (csz c) then ((unp c (rd (zel c) xs i)).drop off).take t else []
    | some (.rowD _ y xs) => bif Nat.beq z y then ((rd [] xs i).drop off).take t else []
    | _ => []
  | _ => []

def optD (env : Env) : Option Operand → Option DV
  | some x => some (opd env x)
  | none => none

def intOf? : DV → Option Int
  | .dat (.int _) n => some n
  | _ => none

/-- How many elements a slice has, whose elements have so many cells. -/
def lenS (O : Heap) (sz : Nat) (x : DV) : Option Int :=
  match x with
  | .dat (.sl e) xs => bif Nat.beq (csz e) sz then some (xs.length : Int) else none
  | .sl n => (match O[n]? with
    | some (.row _ t xs) => bif Nat.beq (csz t) sz then some (xs.length : Int) else none
    | some (.rowD _ z xs) => bif Nat.beq z sz then some (xs.length : Int) else none
    | _ => none)
  | .sw n z a b => bif Nat.beq z sz && live O n then some (b - a) else none
  | .raw (.slice none 0 0) => some 0
  | .e0 => some 0
  | _ => none

def isSlD : DV → Bool
  | .dat (.sl _) _ => true
  | _ => false

def winS (sz : Nat) (x : DV) (l h : Int) : DV :=
  match x with
  | .dat (.sl e) xs => .dat (.sl e) (sub xs l h)
  | .sl n => .sw n sz l h
  | .sw n z a _ => .sw n z (a + l) (a + h)
  | x => x

def sliceD (P : Program) (T : TypeId) (x : DV) (lo hi mx : Option DV) (O : Heap) (K : DV → Option R) : Option R :=
  match P.underlying T with
  | some (.slice et) => bif Nat.blt 0 (P.cellsOf et) then
    (match lenS O (P.cellsOf et) x with
    | none => none
    | some len =>
      match mx with
      | some m => (match lo, hi.bind intOf?, intOf? m with
        | none, some h, some m => bif decide (h = 0) && decide (m = 0) then K .e0 else
            bif isSlD x && decide (0 ≤ h) && decide (h ≤ m) && decide (m ≤ len) then K (winS (P.cellsOf et) x 0 h) else none
        | _, _, _ => none)
      | none => (match (match lo with | some d => intOf? d | none => some 0), (match hi with | some d => intOf? d | none => some len) with
        | some l, some h => bif decide (0 ≤ l) && decide (l ≤ h) && decide (h ≤ len) then K (winS (P.cellsOf et) x l h) else none
        | _, _ => none)) else none
  | _ => none

def addrOff (x : DV) (off : Nat) : Option DV :=
  match x with
  | .ptr n o => some (.ptr n (o + off))
  | .fp t x o => some (.fp t x (o + off))
  | .ep n z i o => some (.ep n z i (o + off))
  | _ => none

def indexAddrD (P : Program) (t : TypeId) (x i : DV) (O : Heap) (K : DV → Option R) : Option R :=
  match intOf? i with
  | none => none
  | some i =>
    match P.underlying t with
    | some (.slice et) => bif Nat.blt 0 (P.cellsOf et) then
      (match x with
      | .dat (.sl e) xs => bif Nat.beq (csz e) (P.cellsOf et) then bif ins xs i then K (.fp e (rd (zel e) xs i) 0) else none else none
      | .sl n => (match O[n]? with
        | some (.row _ c xs) => bif Nat.beq (csz c) (P.cellsOf et) then bif ins xs i then K (.ep n (csz c) i 0) else none else none
        | some (.rowD _ z xs) => bif Nat.beq z (P.cellsOf et) then bif ins xs i then K (.ep n z i 0) else none else none
        | _ => none)
      | .sw n z a b => bif Nat.beq z (P.cellsOf et) && live O n then bif decide (0 ≤ i) && decide (i < b - a) then K (.ep n z (a + i) 0) else none else none
      | _ => none) else none
    | some (.array k et) => bif Nat.blt 0 (P.cellsOf et) then
      (match x with
      | .ptr n off => (match O[n]? with
        | some (.arr _ c xs) => bif Nat.beq off 0 && Nat.beq (csz c) (P.cellsOf et) && Nat.beq k xs.length then bif ins xs i then K (.ep n (csz c) i 0) else none else none
        | some (.cells _ _) => bif decide (0 ≤ i) && decide (i < (k : Int)) then K (.ptr n (off + i.toNat * P.cellsOf et)) else none
        | _ => none)
      | .fp c x off => bif decide (0 ≤ i) && decide (i < (k : Int)) then K (.fp c x (off + i.toNat * P.cellsOf et)) else none
      | .ep n z j off => bif live O n && decide (0 ≤ i) && decide (i < (k : Int)) then K (.ep n z j (off + i.toNat * P.cellsOf et)) else none
      | _ => none) else none
    | _ => none

def lenD (P : Program) (t : TypeId) (x : DV) (O : Heap) : Option Int :=
  match P.underlying t with
  | some (.array n _) => some n
  | some (.slice et) => lenS O (P.cellsOf et) x
  | some .string => (match x with
    | .dat .str s => some (s.size : Int)
    | _ => none)
  | some (.map _ _) => (match x with
    | .mp n => (match O[n]? with
      | some (.map _ es) => some (es.length : Int)
      | _ => none)
    | _ => none)
  | _ => none

/-- A slice without elements and without room. -/
def isNilS : DV → Bool
  | .raw (.slice none 0 0) => true
  | .e0 => true
  | _ => false

def zeroOk (P : Program) (e : TypeId) : Bool :=
  match (P.info? e).bind (·.zero) with
  | some z => Nat.beq z.cells.size (P.cellsOf e) && Nat.blt 0 (P.bytesOf e)
  | none => false

/-- The elements that are appended. -/
def srcT (t : Ty) (x : DV) (O : Heap) : Option (List (El t)) :=
  match x with
  | .dat t' xs => castEl (.sl t) xs
  | .raw (.slice none 0 0) => some []
  | .e0 => some []
  | .sl n => (match O[n]? with
    | some (.row _ t' xs) => castEl (a := .sl t') (.sl t) xs
    | _ => none)
  | .sw n z a b => (match O[n]? with
    | some (.row _ t' xs) => bif Nat.beq z (csz t') then castEl (a := .sl t') (.sl t) (sub xs a b) else none
    | _ => none)
  | _ => none

/-- The operations that read, reckon and make. 'W': it is none of these. -/
def evR (C : Ctx) (o : Oper) (env : Env) (O : Heap) (nx : Nat) (W : Option R) (K : DV → List Blk → Option R) : Option R :=
  let P := C.P
  match o.op with
  | .move x => K (opd env x) []
  | .assign x => K (opd env x) []
  | .pick c a b => (match opd env c with
    | .dat .bool v => bif v then K (opd env a) [] else K (opd env b) []
    | _ => none)
  | .alloc T => bif Nat.beq (zeroCells P T).length (P.cellsOf T) && Nat.blt 0 (P.cellsOf T) then K (.ptr nx 0) [varBlk P T (zeroCells P T)] else none
  | .box T x => bif sized (opd env x) (P.cellsOf T) then K (.ptr nx 0) [varBlk P T (cellsOf (opd env x))] else none
  | .build T parts => bif (P.info? T).isSome && fieldsOk P T && ((P.info? T).bind (·.zero)).isSome then
      (match fillD (placesOf P T) (zeroCells P T) (parts.toList.map fun p => (p.1, opd env p.2)) with
      | some cs => K (mkAgg P T cs) []
      | none => none) else none
  | .buildSlice T n parts => (match P.underlying T with
    | some (.slice e) => (match code P e with
      | some c => bif Nat.beq n 0 then (bif parts.isEmpty && (P.info? e).isSome then K (.sl nx) [.row e c []] else none) else bif Nat.blt 0 (P.cellsOf e) && Nat.blt 0 n && Nat.ble (n * P.cellsOf e) 16777216 && Nat.beq (zeroCells P e).length (P.cellsOf e) then
          (match fillD (fun i => some (i * P.cellsOf e, P.cellsOf e)) (zerosN (zeroCells P e) (n * P.cellsOf e)) (parts.toList.map fun p => (p.1, opd env p.2)) with
          | some cs => (match packN c n cs with
            | some xs => bif Nat.beq (csz c) (P.cellsOf e) then K (.sl nx) [.row e c xs] else none
            | none => W)
          | none => none) else none
      | none => none)
    | _ => none)
  | .load T a => bif Nat.blt 0 (P.cellsOf T) && Nat.beq (cellsAt O (P.cellsOf T) (opd env a)).length (P.cellsOf T) && (aggT P T || Nat.beq (P.cellsOf T) 1) && (P.underlying T).isSome then
      K (mkVal P T (cellsAt O (P.cellsOf T) (opd env a))) [] else none
  | .nilCheck x => bif ptrOk O (opd env x) then K (opd env x) [] else none
  | .binOp op T x y _ => bif nilCmp P T y then nilK op (opd env x) O (fun d => K d []) else binD C op T (isCst x || isCst y) (opd env x) (opd env y) fun d => K d []
  | .unOp op _ x => unD op (opd env x) fun d => K d []
  | .convert s d x => (match P.underlying s, P.underlying d, opd env x with
    | some (.int _), some (.int k), .dat (.int _) n => K (.dat (.int k) (k.wrap n)) []
    | some .string, some .string, .dat .str b => K (.dat .str b) []
    | _, _, _ => none)
  | .makeInterface T x => (match P.underlying T with
    | some (.interface _) => none
    | some _ => K (.ifc T (opd env x)) []
    | none => none)
  | .makeFunc f a b => K (.clo f (a.toList.map (opd env)) (b.toList.map (opd env))) []
  | .makeSlice T l c => (match P.underlying T, opd env l, opd env c with
    | some (.slice e), .dat (.int .i64) l, .dat (.int .i64) c => (match code P e with
      | some t => (match pack t (zeroCells P e) with
        | some x => bif decide (l = c) && decide (0 ≤ l) && limit (P.bytesOf e) l && Nat.beq (csz t) (P.cellsOf e) && Nat.blt 0 (csz t) && zeroOk P e then K (.sl nx) [.row e t (List.replicate (Int.toNat l) x)] else none
        | none => none)
      | none => none)
    | _, _, _ => none)
  | .slice T x lo hi mx => sliceD P T (opd env x) (optD env lo) (optD env hi) (optD env mx) O fun d => K d []
  | .fieldAddr T x f => (match P.underlying T with
    | some (.struct fs) => (match fs[f]? with
      | some fl => (match addrOff (opd env x) fl.offset with
        | some d => bif Nat.beq (P.cellsOf fl.type) 0 then none else bif ptrOk O (opd env x) then K d [] else none
        | none => none)
      | none => none)
    | _ => none)
  | .field T x f => (match P.underlying T with
    | some (.struct fs) => (match fs[f]? with
      | some fl => bif isAggD (opd env x) && (P.underlying fl.type).isSome && !isUn (partD P fl.type (cellsOf (opd env x)) fl.offset) then K (partD P fl.type (cellsOf (opd env x)) fl.offset) [] else none
      | none => none)
    | _ => none)
  | .index T x i => (match P.underlying T, intOf? (opd env i) with
    | some (.array n e), some i => bif isAggD (opd env x) && (P.underlying e).isSome && decide (0 ≤ i) && decide (i < (n : Int)) && !isUn (partD P e (cellsOf (opd env x)) (i.toNat * P.cellsOf e)) then
        K (partD P e (cellsOf (opd env x)) (i.toNat * P.cellsOf e)) [] else none
    | _, _ => none)
  | .indexAddr T x i => indexAddrD P T (opd env x) (opd env i) O fun d => K d []
  | .typeAssert x _ T commaOk => bif commaOk then
      (match opd env x, P.underlying T with
      | .ifc t d, some (.interface want) => (match (P.info? t).map (fun i => (lacking want i.methods).isEmpty) with
        | some true => K (.tup [.ifc t d, .dat .bool true]) []
        | some false => (match (P.info? T).bind (·.zero) with
          | some z => K (.tup [ofConst z, .dat .bool false]) []
          | none => none)
        | none => none)
      | .ifc t d, some _ => bif Nat.beq t T then K (.tup [d, .dat .bool true]) [] else
        (match (P.info? T).bind (·.zero) with
          | some z => K (.tup [ofConst z, .dat .bool false]) []
          | none => none)
      | .raw .nilIface, some _ => (match (P.info? T).bind (·.zero) with
          | some z => K (.tup [ofConst z, .dat .bool false]) []
          | none => none)
      | _, _ => none) else none
  | .extract x i => (match opd env x with
    | .tup ds => (match ds[i]? with
      | some d => K d []
      | none => none)
    | _ => none)
  | .call c => (match c.callee with
    | .builtin .len => (match c.argTypes[0]?, c.args[0]? with
      | some t, some x => (match lenD P t (opd env x) O with
        | some n => K (.dat (.int .i64) n) []
        | none => none)
      | _, _ => none)
    | .builtin .append => (match c.args.toList.map (opd env), (c.argTypes[0]?).bind P.underlying, (c.argTypes[1]?).bind P.underlying with
      | [s, x], some (.slice e), some (.slice _) => bif isNilS s then (match code P e with
          | some t => (match srcT t x O with
            | some ys => bif limit (P.bytesOf e) ys.length && Nat.beq (csz t) (P.cellsOf e) && Nat.blt 0 (csz t) && zeroOk P e then K (.sl nx) [.row e t ys] else none
            | none => W)
          | none => none) else W
      | _, _, _ => none)
    | .builtin .max => (match c.args.toList.map (opd env) with
      | [.dat (.int k) a, .dat (.int _) b] => K (.dat (.int k) (bif decide (b > a) then b else a)) []
      | _ => none)
    | .builtin .min => (match c.args.toList.map (opd env) with
      | [.dat (.int k) a, .dat (.int _) b] => K (.dat (.int k) (bif decide (b < a) then b else a)) []
      | _ => none)
    | .value f => (match fnOf (opd env f) with
      | some (g, [], []) => (match C.S g with
        | some sp => bif namelessL (c.args.toList.map (opd env)) then sp.cps (c.args.toList.map (opd env)) nx K else W
        | none => (match C.X g with
          | some xf => (match xf (c.args.toList.map (opd env)) with
            | some d => K d []
            | none => none)
          | none => W))
      | _ => W)
    | .invoke f n => (match methodT P (opd env f) n with
      | some (g, d) => (match C.X g with
        | some xf => (match xf (d :: c.args.toList.map (opd env)) with
          | some d' => K d' []
          | none => none)
        | none => W)
      | none => none)
    | _ => W)
  | _ => W

/-- A literal of elements that is data from the first. -/
def evB (C : Ctx) (o : Oper) (env : Env) (K : DV → Option R) (E : Option R) : Option R :=
  match o.op with
  | .buildSlice T n parts => (match C.P.underlying T with
    | some (.slice e) => (match code C.P e with
      | some c => bif Nat.blt 0 (C.P.cellsOf e) && Nat.blt 0 n && Nat.ble (n * C.P.cellsOf e) 16777216 && Nat.beq (zeroCells C.P e).length (C.P.cellsOf e) && Nat.beq (csz c) (C.P.cellsOf e) then
          (match fillD (fun i => some (i * C.P.cellsOf e, C.P.cellsOf e)) (zerosN (zeroCells C.P e) (n * C.P.cellsOf e)) (parts.toList.map fun p => (p.1, opd env p.2)) with
          | some cs => (match packN c n cs with
            | some xs => K (.dat (.sl c) xs)
            | none => none)
          | none => none) else none
      | none => none)
    | _ => none)
  | _ => E
end
end Go.AM
