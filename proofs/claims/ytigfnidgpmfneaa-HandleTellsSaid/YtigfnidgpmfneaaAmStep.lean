/- DERIVED. NO CLAIM IN IT. The plain machine: stores, and its steps. Definitions alone. -/
import Derived.Test.YtigfnidgpmfneaaAmRun
set_option linter.unusedVariables false
namespace Go.AM
section
variable {R : Type}

/-- One cell's datum. -/
def leafD : DV → Bool
  | .dat (.int _) _ | .dat .bool _ | .dat .str _ | .dat (.sl _) _ => true
  | .raw v => oneV v
  | .ptr _ _ | .fp _ _ _ | .ep _ _ _ _ | .sl _ | .sw _ _ _ _ | .e0 | .mp _ | .ifc _ _ | .clo _ _ _ => true
  | _ => false

/-- Cells, some of which are others. -/
def putAt {α : Type} (old : List α) (off : Nat) (cs : List α) : List α := old.take off ++ (cs ++ old.drop (off + cs.length))

/-- A store through an address. -/
def storeD (O : Heap) (a : DV) (cs : List DV) : Option Heap :=
  match a with
  | .ptr n off => (match O[n]? with
    | some (.cells T old) => bif Nat.ble (off + cs.length) old.length then some (O.set n (.cells T (putAt old off cs))) else none
    | _ => none)
  | .ep n z i off => (match O[n]? with
    | some (.row e t xs) => bif Nat.beq z (csz t) && Nat.ble (off + cs.length) (csz t) then
      (match pack t (putAt (unp t (rd (zel t) xs i)) off cs) with
      | some x => some (O.set n (.row e t (xs.set i.toNat x)))
      | none => some (O.set n (.rowD e (csz t) ((xs.map (unp t)).set i.toNat (putAt (unp t (rd (zel t) xs i)) off cs))))) else none
    | some (.arr T t xs) => bif Nat.beq z (csz t) && Nat.ble (off + cs.length) (csz t) then
      (match pack t (putAt (unp t (rd (zel t) xs i)) off cs) with
      | some x => some (O.set n (.arr T t (xs.set i.toNat x)))
      | none => none) else none
    | some (.rowD e s xs) => bif Nat.beq z s && Nat.ble (off + cs.length) s then some (O.set n (.rowD e s (xs.set i.toNat (putAt (rd [] xs i) off cs)))) else none
    | _ => none)
  | _ => none

/-- The operations that write. -/
def evW (C : Ctx) (o : Oper) (env : Env) (O : Heap) (nx : Nat) (K : DV → Heap → Option R) : Option R :=
  let P := C.P
  match o.op with
  | .store T a x => bif sized (opd env x) (P.cellsOf T) && Nat.blt 0 (P.cellsOf T) && (cellsOf (opd env x)).all leafD && o.dst.isNone then
      (match storeD O (opd env a) (cellsOf (opd env x)) with
      | some O' => K .un O'
      | none => none) else none
  | .call c => (match c.callee with
    | .builtin .append => (match c.args.toList.map (opd env), (c.argTypes[0]?).bind P.underlying, (c.argTypes[1]?).bind P.underlying with
      | [s, x], some (.slice e), some (.slice _) => (match s with
        | .sl n => (match O[n]? with
          | some (.row e' t xs) => bif Nat.beq e e' then (match srcT t x O with
            | some ys => bif limit (P.bytesOf e) ((xs.length : Int) + ys.length) && Nat.beq (csz t) (P.cellsOf e) && Nat.blt 0 (csz t) && zeroOk P e then K (.sl nx) ((O.set n .dead) ++ [.row e t (xs ++ ys)]) else none
            | none => none) else none
          | _ => none)
        | .sw n z lo hi => (match O[n]? with
          | some (.row e' t xs) => bif Nat.beq e e' && Nat.beq z (csz t) && decide (lo = 0) then (match srcT t x O with
            | some ys => bif limit (P.bytesOf e) (hi + ys.length) && Nat.beq (csz t) (P.cellsOf e) && Nat.blt 0 (csz t) && zeroOk P e then K (.sl nx) ((O.set n .dead) ++ [.row e t (sub xs 0 hi ++ ys)]) else none
            | none => none) else none
          | _ => none)
        | _ => none)
      | _, _, _ => none)
    | _ => none)
  | _ => none
end

inductive It where
  | code (c : Code)
  | inBlock (id : Nat)
  | inLoop (body : Code)
  | inScope (body : Code)
  | ops (reg : Array Oper) (i : Nat) (draw : Bool)

structure Fr where
  fn : Nat
  nt : Nat
  env : Env
  todo : List It

def exitIt (id : Nat) : List It → Option (List It)
  | .inBlock id' :: k => bif Nat.beq id' id then some k else exitIt id k
  | _ :: k => exitIt id k
  | [] => none

def putD (dst : Option Nat) (d : DV) (env : Env) : Env :=
  match dst with
  | some t => (t, d) :: env
  | none => env

def dstOk (dst : Option Nat) (nt : Nat) : Bool :=
  match dst with
  | some t => Nat.blt t nt
  | none => true

/-! ### Which regions may be done in the order of the text -/
def tmpsOf (o : Oper) (ops : Array Oper) : List Nat :=
  (o.op.operands.toList.filterMap fun | .tmp t => some t | _ => none) ++
  (match o.guard with
   | some (g, _) => ((ops[g]?).bind (·.dst)).toList
   | none => [])

/-- Bit j: j comes ahead in whatever order. -/
def befBits (o : Oper) (acc : List Nat) : Nat :=
  o.after.toList.foldl (fun s e => bif Region.binds .any e then Nat.lor (Nat.lor s (Nat.shiftLeft 1 e.on)) (acc.getD e.on 0) else s) 0

def befL : List Oper → List Nat → List Nat
  | [], acc => acc
  | o :: r, acc => befL r (acc ++ [befBits o acc])

def ahead (ops : Array Oper) (i j : Nat) : Bool := ((befL ops.toList []).getD j 0).testBit i

def disj (x y : Oper) (ops : Array Oper) : Bool :=
  (match x.dst with
   | some d => !(tmpsOf y ops).contains d && y.dst != some d
   | none => true) &&
  (match y.dst with
   | some d => !(tmpsOf x ops).contains d
   | none => true)

def regOk (ops : Array Oper) : Bool :=
  let b := befL ops.toList []
  (List.range ops.size).all fun j => ((ops.getD j default).after.toList.all fun e => !Region.binds .any e || Nat.blt e.on j) &&
    (List.range j).all fun i => (b.getD j 0).testBit i || disj (ops.getD i default) (ops.getD j default) ops

def pinned (ops : Array Oper) (j : Nat) : Bool :=
  let b := befL ops.toList []
  ((List.range j).all fun i => (b.getD j 0).testBit i) &&
  ((List.range ops.size).all fun k => Nat.ble k j || (b.getD k 0).testBit j)

def argEnv : Nat → List DV → Env
  | _, [] => []
  | i, d :: r => (i, d) :: argEnv (i + 1) r

def enter (P : Program) (g : Nat) (args : List DV) : Option Fr :=
  match P.funcs[g]? with
  | some fn => (match fn.body with
    | some c => some { fn := g, nt := fn.ntmps, env := argEnv 0 args, todo := [.code c] }
    | none => none)
  | none => none

/-- Whom a call calls, with what. -/
def target (P : Program) (env : Env) (c : Call) : Option (Nat × List DV) :=
  match c.callee with
  | .value f => (match fnOf (opd env f) with
    | some (g, a, b) => some (g, a ++ c.args.toList.map (opd env) ++ b)
    | none => none)
  | .invoke f n => (match methodT P (opd env f) n with
    | some (g, d) => some (g, d :: c.args.toList.map (opd env))
    | none => none)
  | _ => none

def resultsD (P : Program) (env : Env) (O : Heap) : List ResultVar → List DV
  | [] => []
  | .tmp t :: r => look env t :: resultsD P env O r
  | .cell a T :: r => mkVal P T (cellsAt O (P.cellsOf T) (look env a)) :: resultsD P env O r

def loadOk (P : Program) (O : Heap) (T : TypeId) (d : DV) : Bool :=
  Nat.blt 0 (P.cellsOf T) && Nat.beq (cellsAt O (P.cellsOf T) d).length (P.cellsOf T) && (aggT P T || Nat.beq (P.cellsOf T) 1) && (P.underlying T).isSome

def resOk (P : Program) (env : Env) (O : Heap) : List ResultVar → Bool
  | [] => true
  | .tmp _ :: r => resOk P env O r
  | .cell a T :: r => loadOk P O T (look env a) && resOk P env O r

def tupD : List DV → DV
  | [d] => d
  | ds => .tup ds

section
variable {R : Type}
def run (C : Ctx) (L : Fr → List Fr → Heap → Option R) (fin : DV → Heap → Option R) : Nat → Fr → List Fr → Heap → Option R
  | 0, _, _, _ => none
  | n + 1, fr, st, O =>
    let ret : Unit → Option R := fun _ =>
      match C.P.funcs[fr.fn]? with
      | some fn => bif resOk C.P fr.env O fn.results.toList then (match st with
        | [] => fin (tupD (resultsD C.P fr.env O fn.results.toList)) O
        | c :: st' => (match c.todo with
          | .ops reg i draw :: k => run C L fin n { c with env := putD ((reg[i]?).bind (·.dst)) (tupD (resultsD C.P fr.env O fn.results.toList)) c.env, todo := .ops reg (i + 1) draw :: k } st' O
          | _ => none)) else none
      | none => none
    match fr.todo with
    | [] => ret ()
    | .code c :: k => (match c with
      | .skip => run C L fin n { fr with todo := k } st O
      | .label _ => run C L fin n { fr with todo := k } st O
      | .seq a b => run C L fin n { fr with todo := .code a :: .code b :: k } st O
      | .cond x a b => (match x with
        | .tmp t => (match look fr.env t with
          | .dat .bool v => bif v then run C L fin n { fr with env := (t, .dat .bool true) :: fr.env, todo := .code a :: k } st O
              else run C L fin n { fr with env := (t, .dat .bool false) :: fr.env, todo := .code b :: k } st O
          | _ => none)
        | .const (.bool v) => bif v then run C L fin n { fr with todo := .code a :: k } st O else run C L fin n { fr with todo := .code b :: k } st O
        | _ => none)
      | .block id b => run C L fin n { fr with todo := .code b :: .inBlock id :: k } st O
      | .loop b => L { fr with todo := .code b :: .inLoop b :: k } st O
      | .scope b => run C L fin n { fr with todo := .code b :: .inScope b :: k } st O
      | .exit id => (match exitIt id k with
        | some k' => run C L fin n { fr with todo := k' } st O
        | none => none)
      | .ret => ret ()
      | .region _ ops draw => bif draw && !regOk ops then none else run C L fin n { fr with todo := .ops ops 0 draw :: k } st O
      | _ => none)
    | .inBlock _ :: k => run C L fin n { fr with todo := k } st O
    | .inScope _ :: k => run C L fin n { fr with todo := k } st O
    | .inLoop b :: k => L { fr with todo := .code b :: .inLoop b :: k } st O
    | .ops reg i draw :: k =>
      match reg[i]? with
      | none => run C L fin n { fr with todo := k } st O
      | some o =>
        bif dstOk o.dst fr.nt then
          let exec : Env → Option R := fun env =>
            evR C o env O O.length
              (bif draw && !pinned reg i then none else
                match o.op with
                | .call c => (match c.callee with
                  | .builtin _ => evW C o env O O.length fun d O' => run C L fin n { fr with env := putD o.dst d env, todo := .ops reg (i + 1) draw :: k } st O'
                  | _ => (match target C.P env c with
                    | some (g, args) => (match enter C.P g args with
                      | some f => run C L fin n f ({ fr with env := env, todo := .ops reg i draw :: k } :: st) O
                      | none => none)
                    | none => none))
                | _ => evW C o env O O.length fun d O' => run C L fin n { fr with env := putD o.dst d env, todo := .ops reg (i + 1) draw :: k } st O')
              fun d news => run C L fin n { fr with env := putD o.dst d env, todo := .ops reg (i + 1) draw :: k } st (O ++ news)
          match o.guard with
          | none => exec fr.env
          | some (j, want) => (match (reg[j]?).bind (·.dst) with
            | some t => (match look fr.env t with
              | .dat .bool v => bif v then
                  (bif want then exec ((t, .dat .bool true) :: fr.env) else run C L fin n { fr with env := putD o.dst (.raw undef) ((t, .dat .bool true) :: fr.env), todo := .ops reg (i + 1) draw :: k } st O)
                else
                  (bif want then run C L fin n { fr with env := putD o.dst (.raw undef) ((t, .dat .bool false) :: fr.env), todo := .ops reg (i + 1) draw :: k } st O else exec ((t, .dat .bool false) :: fr.env))
              | .raw (.tuple _) => run C L fin n { fr with env := putD o.dst (.raw undef) fr.env, todo := .ops reg (i + 1) draw :: k } st O
              | _ => none)
            | none => none)
        else none
end
end Go.AM
