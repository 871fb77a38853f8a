/- DERIVED. NO CLAIM IN IT. The plain machine: stores, and its steps. Definitions alone. -/
import Derived.Test.YteopbgebpgchfaaAmRun
set_option linter.unusedVariables false
namespace Go.AM
section
variable {R : Type}

/-- One cell's datum. -/
def leafD : DV → Bool
  | .dat (.int _) _ | .dat .bool _ | .dat .str _ | .dat (.sl _) _ => true
  | .raw v => oneV v
  | .ptr _ _ | .fp _ _ _ | .ep _ _ _ _ | .sl _ | .sw _ _ _ _ | .e0 | .mp _ | .ifc _ _ | .clo _ _ _ => true
  | _ => false

/-- Cells, some of which are others. -/
def putAt {α : Type} (old : List α) (off : Nat) (cs : List α) : List α := old.take off ++ (cs ++ old.drop (off + cs.length))

/-- A store through an address. -/
def storeD (O : Heap) (a : DV) (cs : List DV) : Option Heap :=
  match a with
  | .ptr n off => (match O[n]? with
    | some (.cells T old) => bif Nat.ble (off + cs.length) old.length then some (O.set n (.cells T (putAt old off cs))) else none
    | _ => none)
  | .ep n z i off => (match O[n]? with
    | some (.row e t xs) => bif Nat.beq z (csz t) && Nat.ble (off + cs.length) (csz t) then
      (match pack t (putAt (unp t (rd (zel t) xs i)) off cs) with
      | some x => some (O.set n (.row e t (xs.set i.toNat x)))
      | none => some (O.set n (.rowD e (csz t) ((xs.map (unp t)).set i.toNat (putAt (unp t (rd (zel t) xs i)) off cs))))) else none
    | some (.arr T t xs) => bif Nat.beq z (csz t) && Nat.ble (off + cs.length) (csz t) then
      (match pack t (putAt (unp t (rd (zel t) xs i)) off cs) with
      | some x => some (O.set n (.arr T t (xs.set i.toNat x)))
      | none => none) else none
    | some (.rowD e s xs) => bif Nat.beq z s && Nat.ble (off + cs.length) s then some (O.set n (.rowD e s (xs.set i.toNat (putAt (rd [] xs i) off cs)))) else none
    | _ => none)
  | _ => none

/-- A row of one's own, or a window of one: its name, from where, to where. -/
def winOf (d : DV) (O : Heap) : Option (Nat × Int × Int) :=
  match d with
  | .sl n => (match O[n]? with
    | some (.row _ _ xs) => some (n, 0, (xs.length : Int))
    | _ => none)
  | .sw n _ a b => some (n, a, b)
  | _ => none

def winZ (d : DV) (z : Nat) : Bool :=
  match d with
  | .sw _ y _ _ => Nat.beq y z
  | _ => true

def evCopy (C : Ctx) (c : Call) (env : Env) (O : Heap) (K : DV → Heap → Option R) : Option R :=
  match c.args.toList.map (opd env), (c.argTypes[0]?).bind C.P.underlying with
  | [d, x], some (.slice e) => (match winOf d O with
    | some (n, lo, hi) => (match O[n]? with
      | some (.row e' t xs) => bif Nat.beq e e' && Nat.beq (csz t) (C.P.cellsOf e) && Nat.blt 0 (csz t) && winZ d (csz t) then
          (match srcT t x O with
          | some ys => bif decide ((ys.length : Int) < hi - lo) then K (.dat (.int .i64) (ys.length : Int)) (O.set n (.row e t (putAt xs lo.toNat ys)))
              else K (.dat (.int .i64) (hi - lo)) (O.set n (.row e t (putAt xs lo.toNat (ys.take (hi - lo).toNat))))
          | none => none) else none
      | _ => none)
    | none => none)
  | _, _ => none

def evClear (C : Ctx) (c : Call) (env : Env) (O : Heap) (K : DV → Heap → Option R) : Option R :=
  match c.args.toList.map (opd env), (c.argTypes[0]?).bind C.P.underlying with
  | [d], some (.slice e) => (match winOf d O with
    | some (n, lo, hi) => (match O[n]? with
      | some (.row e' t xs) => bif Nat.beq e e' && Nat.beq (csz t) (C.P.cellsOf e) && Nat.blt 0 (csz t) && winZ d (csz t) && zeroOk C.P e then
          (match pack t (zeroCells C.P e) with
          | some z => K .un (O.set n (.row e t (putAt xs lo.toNat (List.replicate (hi - lo).toNat z))))
          | none => none) else none
      | _ => none)
    | none => none)
  | _, _ => none

/-- The operations that write. -/
def evW (C : Ctx) (o : Oper) (env : Env) (O : Heap) (nx : Nat) (K : DV → Heap → Option R) : Option R :=
  let P := C.P
  match o.op with
  | .store T a x => bif sized (opd env x) (P.cellsOf T) && Nat.blt 0 (P.cellsOf T) && (cellsOf (opd env x)).all leafD && o.dst.isNone then
      (match storeD O (opd env a) (cellsOf (opd env x)) with
      | some O' => K .un O'
      | none => none) else none
  | .call c => (match c.callee with
    | .builtin .append => (match c.args.toList.map (opd env), (c.argTypes[0]?).bind P.underlying, (c.argTypes[1]?).bind P.underlying with
      | [s, x], some (.slice e), some (.slice _) => (match s with
        | .sl n => (match O[n]? with
          | some (.row e' t xs) => bif Nat.beq e e' then (match srcT t x O with
            | some ys => bif limit (P.bytesOf e) ((xs.length : Int) + ys.length) && Nat.beq (csz t) (P.cellsOf e) && Nat.blt 0 (csz t) && zeroOk P e then K (.sl nx) ((O.set n .dead) ++ [.row e t (xs ++ ys)]) else none
            | none => none) else none
          | _ => none)
        | .sw n z lo hi => (match O[n]? with
          | some (.row e' t xs) => bif Nat.beq e e' && Nat.beq z (csz t) && decide (lo = 0) then (match srcT t x O with
            | some ys => bif limit (P.bytesOf e) (hi + ys.length) && Nat.beq (csz t) (P.cellsOf e) && Nat.blt 0 (csz t) && zeroOk P e then K (.sl nx) ((O.set n .dead) ++ [.row e t (sub xs 0 hi ++ ys)]) else none
            | none => none) else none
          | _ => none)
        | _ => none)
      | _, _, _ => none)
    | .builtin .copy => evCopy C c env O K
    | .builtin .clear => evClear C c env O K
    | _ => none)
  | _ => none
end

inductive It where
  | code (c : Code)
  | inBlock (id : Nat)
  | inLoop (body : Code)
  | inScope (body : Code)
  | ops (reg : Array Oper) (i : Nat) (draw : Bool)

structure Fr where
  fn : Nat
  nt : Nat
  env : Env
  todo : List It

def exitIt (id : Nat) : List It → Option (List It)
  | .inBlock id' :: k => bif Nat.beq id' id then some k else exitIt id k
  | _ :: k => exitIt id k
  | [] => none

def putD (dst : Option Nat) (d : DV) (env : Env) : Env :=
  match dst with
  | some t => (t, d) :: env
  | none => env

def dstOk (dst : Option Nat) (nt : Nat) : Bool :=
  match dst with
  | some t => Nat.blt t nt
  | none => true

/-! ### Which regions may be done in the order of the text -/
def tmpsOf (o : Oper) (ops : Array Oper) : List Nat :=
  (o.op.operands.toList.filterMap fun | .tmp t => some t | _ => none) ++
  (match o.guard with
   | some (g, _) => ((ops[g]?).bind (·.dst)).toList
   | none => [])

/-- Bit j: j comes ahead in whatever order. -/
def befBits (o : Oper) (acc : List Nat) : Nat :=
  o.after.toList.foldl (fun s e => bif Region.binds .any e then Nat.lor (Nat.lor s (Nat.shiftLeft 1 e.on)) (acc.getD e.on 0) else s) 0

def befL : List Oper → List Nat → List Nat
  | [], acc => acc
  | o :: r, acc => befL r (acc ++ [befBits o acc])

def ahead (ops : Array Oper) (i j : Nat) : Bool := ((befL ops.toList []).getD j 0).testBit i

def disj (x y : Oper) (ops : Array Oper) : Bool :=
  (match x.dst with
   | some d => !(tmpsOf y ops).contains d && y.dst != some d
   | none => true) &&
  (match y.dst with
   | some d => !(tmpsOf x ops).contains d
   | none => true)

def regOk (ops : Array Oper) : Bool :=
  let b := befL ops.toList []
  (List.range ops.size).all fun j => ((ops.getD j default).after.toList.all fun e => !Region.binds .any e || Nat.blt e.on j) &&
    (List.range j).all fun i => (b.getD j 0).testBit i || disj (ops.getD i default) (ops.getD j default) ops

def pinned (ops : Array Oper) (j : Nat) : Bool :=
  let b := befL ops.toList []
  ((List.range j).all fun i => (b.getD j 0).testBit i) &&
  ((List.range ops.size).all fun k => Nat.ble k j || (b.getD k 0).testBit j)

/-- Operations whose place among the others makes no difference but for the temps they read and give. -/
def fsrc : Op → Option Operand
  | .move x => some x
  | .extract x _ => some x
  | _ => none

/-- Such an operation: nobody else gives its temp, and what it reads stays. -/
def floatOp (ops : Array Oper) (l : Nat) : Bool :=
  match ops[l]? with
  | some o => (match fsrc o.op, o.dst with
    | some x, some d => o.guard.isNone && (match x with | .tmp t => !Nat.beq t d | _ => true) && (List.range ops.size).all fun k => Nat.beq k l || (match ops[k]? with
      | some q => !(q.dst == some d) && (match x with
        | .tmp t => !(q.dst == some t) || Nat.blt k l || (Nat.blt l k && ahead ops l k && (fsrc q.op).isNone)
        | _ => true)
      | none => true)
    | _, _ => false)
  | none => false

def quasi (ops : Array Oper) (j : Nat) : Bool :=
  let b := befL ops.toList []
  ((List.range j).all fun i => (b.getD j 0).testBit i || floatOp ops i) &&
  ((List.range ops.size).all fun k => Nat.ble k j || (b.getD k 0).testBit j)

/-- From here on all is in order, but for plain moves. -/
def tailQ (ops : Array Oper) (i : Nat) : Bool := (List.range ops.size).all fun k => Nat.blt k i || quasi ops k

def fixed (ops : Array Oper) (i : Nat) : Bool := pinned ops i || tailQ ops i

/-! ### Stores that may be done ahead of others -/
/-- No step with a place of its own lies between them. -/
def near (reg : Array Oper) (i j : Nat) : Bool := (List.range reg.size).all fun k => (Nat.blt k i && Nat.blt k j) || (Nat.blt i k && Nat.blt j k) || !fixed reg k

def hotAt (reg : Array Oper) (i : Nat) (env : Env) (j : Nat) : Option Nat :=
  bif fixed reg j then none else
    match reg[j]? with
    | some o => (match o.op with
      | .store _ (.tmp a) _ => (match look env a with
        | .ptr n _ => bif near reg i j then some n else none
        | _ => none)
      | _ => none)
    | none => none

def hotN (reg : Array Oper) (i : Nat) (env : Env) : List Nat := (List.range reg.size).filterMap (hotAt reg i env)

/-- The addresses of such stores are not given here. -/
def hotOk (reg : Array Oper) : Bool := (List.range reg.size).all fun j => fixed reg j || (match reg[j]? with
  | some o => (match o.op with
    | .store _ (.tmp a) _ => reg.toList.all fun q => !(q.dst == some a)
    | _ => true)
  | none => true)

def deads : List Nat → Heap → Heap
  | [], H => H
  | n :: r, H => deads r (H.set n .dead)

def nodupB : List Nat → Bool
  | [] => true
  | n :: r => !(r.any (Nat.beq n)) && nodupB r

def isPtrD : DV → Bool
  | .ptr _ _ => true
  | _ => false

def argEnv : Nat → List DV → Env
  | _, [] => []
  | i, d :: r => (i, d) :: argEnv (i + 1) r

def enter (P : Program) (g : Nat) (args : List DV) : Option Fr :=
  match P.funcs[g]? with
  | some fn => (match fn.body with
    | some c => some { fn := g, nt := fn.ntmps, env := argEnv 0 args, todo := [.code c] }
    | none => none)
  | none => none

/-- Whom a call calls, with what. -/
def target (P : Program) (env : Env) (c : Call) : Option (Nat × List DV) :=
  match c.callee with
  | .value f => (match fnOf (opd env f) with
    | some (g, a, b) => some (g, a ++ c.args.toList.map (opd env) ++ b)
    | none => none)
  | .invoke f n => (match methodT P (opd env f) n with
    | some (g, d) => some (g, d :: c.args.toList.map (opd env))
    | none => none)
  | _ => none

def resultsD (P : Program) (env : Env) (O : Heap) : List ResultVar → List DV
  | [] => []
  | .tmp t :: r => look env t :: resultsD P env O r
  | .cell a T :: r => mkVal P T (cellsAt O (P.cellsOf T) (look env a)) :: resultsD P env O r

def loadOk (P : Program) (O : Heap) (T : TypeId) (d : DV) : Bool :=
  Nat.blt 0 (P.cellsOf T) && Nat.beq (cellsAt O (P.cellsOf T) d).length (P.cellsOf T) && (aggT P T || Nat.beq (P.cellsOf T) 1) && (P.underlying T).isSome

def resOk (P : Program) (env : Env) (O : Heap) : List ResultVar → Bool
  | [] => true
  | .tmp _ :: r => resOk P env O r
  | .cell a T :: r => loadOk P O T (look env a) && resOk P env O r

def tupD : List DV → DV
  | [d] => d
  | ds => .tup ds

mutual
def namesD : DV → List Nat
  | .ptr n _ => [n]
  | .ep n _ _ _ => [n]
  | .sl n => [n]
  | .sw n _ _ _ => [n]
  | .mp n => [n]
  | .agg cs => namesL cs
  | .ifc _ d => namesD d
  | .clo _ a b => namesL a ++ namesL b
  | .tup ds => namesL ds
  | _ => []
def namesL : List DV → List Nat
  | [] => []
  | d :: r => namesD d ++ namesL r
end

/-! ### Rows that are data from now on -/
def anyN (ns : List Nat) (n : Nat) : Bool := ns.any (Nat.beq n)

mutual
def fzD (O : Heap) (ns : List Nat) : DV → DV
  | .sl n => bif anyN ns n then (match O[n]? with
    | some (.row _ t xs) => .dat (.sl t) xs
    | _ => .un) else .sl n
  | .sw n z a b => bif anyN ns n then (match O[n]? with
    | some (.row _ t xs) => bif Nat.beq z (csz t) then .dat (.sl t) (sub xs a b) else .un
    | _ => .un) else .sw n z a b
  | .ep n z i off => bif anyN ns n then .un else .ep n z i off
  | .ptr n off => bif anyN ns n then .un else .ptr n off
  | .mp n => bif anyN ns n then .un else .mp n
  | .agg cs => .agg (fzL O ns cs)
  | .ifc t d => .ifc t (fzD O ns d)
  | .clo f a b => .clo f (fzL O ns a) (fzL O ns b)
  | .tup ds => .tup (fzL O ns ds)
  | .un => .un
  | .dat t x => .dat t x
  | .raw v => .raw v
  | .fp t x off => .fp t x off
  | .e0 => .e0
  | .ub => .ub
def fzL (O : Heap) (ns : List Nat) : List DV → List DV
  | [] => []
  | d :: r => fzD O ns d :: fzL O ns r
end

def fzE (O : Heap) (ns : List Nat) : Env → Env
  | [] => []
  | (t, d) :: r => (t, fzD O ns d) :: fzE O ns r

def fzB (O : Heap) (ns : List Nat) : Blk → Blk
  | .cells T cs => .cells T (fzL O ns cs)
  | .rowD e z xs => .rowD e z (xs.map (fzL O ns))
  | .map T es => .map T (es.map fun p => (p.1, fzD O ns p.2))
  | .dead => .dead
  | .arr T t xs => .arr T t xs
  | .row e t xs => .row e t xs

def fzH (O : Heap) (ns : List Nat) : Nat → Heap → Heap
  | _, [] => []
  | i, B :: r => (bif anyN ns i then .dead else fzB O ns B) :: fzH O ns (i + 1) r

def fzS (O : Heap) (ns : List Nat) : List Fr → List Fr
  | [] => []
  | c :: r => { c with env := fzE O ns c.env } :: fzS O ns r

def rowsOk (O : Heap) (ns : List Nat) : Bool := ns.all fun n => match O[n]? with
  | some (.row _ _ _) => true
  | _ => false

/-- The rows that an operation needs as data: those handed to a function that is told, or laid into elements. -/
def needF (C : Ctx) (o : Oper) (env : Env) : List Nat :=
  match o.op with
  | .call c => (match c.callee with
    | .value f => (match fnOf (opd env f) with
      | some (g, [], []) => (match C.S g with
        | some _ => namesL (c.args.toList.map (opd env))
        | none => [])
      | _ => [])
    | _ => [])
  | .buildSlice _ _ parts => namesL (parts.toList.map fun p => opd env p.2)
  | .store _ a x => (match opd env a with
    | .ep _ _ _ _ => namesD (opd env x)
    | _ => [])
  | _ => []

def frzQ (C : Ctx) (o : Oper) (env : Env) (O : Heap) : Bool := !(needF C o env).isEmpty && rowsOk O (needF C o env)

/-- Both, if they are the same. -/
noncomputable def join {R : Type} (a b : Option R) : Option R := open Classical in if a = b then a else none
theorem join_same {R : Type} (a : Option R) : join a a = a := by simp [join]
theorem join_some {R : Type} {a b : Option R} {r : R} (h : join a b = some r) : a = some r ∧ b = some r := by
  unfold join at h
  split at h
  · rename_i e; exact ⟨h, e ▸ h⟩
  · simp at h

section
variable {R : Type}
noncomputable def run (C : Ctx) (L : Fr → List Fr → Heap → Option R) (fin : DV → Heap → Option R) : Nat → Fr → List Fr → Heap → Option R
  | 0, _, _, _ => none
  | n + 1, fr, st, O =>
    let ret : Unit → Option R := fun _ =>
      match C.P.funcs[fr.fn]? with
      | some fn => bif resOk C.P fr.env O fn.results.toList then (match st with
        | [] => fin (tupD (resultsD C.P fr.env O fn.results.toList)) O
        | c :: st' => (match c.todo with
          | .ops reg i draw :: k => run C L fin n { c with env := putD ((reg[i]?).bind (·.dst)) (tupD (resultsD C.P fr.env O fn.results.toList)) c.env, todo := .ops reg (i + 1) draw :: k } st' O
          | _ => none)) else none
      | none => none
    match fr.todo with
    | [] => ret ()
    | .code c :: k => (match c with
      | .skip => run C L fin n { fr with todo := k } st O
      | .label _ => run C L fin n { fr with todo := k } st O
      | .seq a b => run C L fin n { fr with todo := .code a :: .code b :: k } st O
      | .cond x a b => (match x with
        | .tmp t => (match look fr.env t with
          | .dat .bool v => bif v then run C L fin n { fr with env := (t, .dat .bool true) :: fr.env, todo := .code a :: k } st O
              else run C L fin n { fr with env := (t, .dat .bool false) :: fr.env, todo := .code b :: k } st O
          | .ub => join (run C L fin n { fr with env := (t, .dat .bool true) :: fr.env, todo := .code a :: k } st O) (run C L fin n { fr with env := (t, .dat .bool false) :: fr.env, todo := .code b :: k } st O)
          | _ => none)
        | .const (.bool v) => bif v then run C L fin n { fr with todo := .code a :: k } st O else run C L fin n { fr with todo := .code b :: k } st O
        | _ => none)
      | .block id b => run C L fin n { fr with todo := .code b :: .inBlock id :: k } st O
      | .loop b => L { fr with todo := .code b :: .inLoop b :: k } st O
      | .scope b => run C L fin n { fr with todo := .code b :: .inScope b :: k } st O
      | .exit id => (match exitIt id k with
        | some k' => run C L fin n { fr with todo := k' } st O
        | none => none)
      | .ret => ret ()
      | .region _ ops draw => bif draw && !regOk ops then none else run C L fin n { fr with todo := .ops ops 0 draw :: k } st O
      | _ => none)
    | .inBlock _ :: k => run C L fin n { fr with todo := k } st O
    | .inScope _ :: k => run C L fin n { fr with todo := k } st O
    | .inLoop b :: k => L { fr with todo := .code b :: .inLoop b :: k } st O
    | .ops reg i draw :: k =>
      match reg[i]? with
      | none => run C L fin n { fr with todo := k } st O
      | some o =>
        bif dstOk o.dst fr.nt && (!draw || fixed reg i || hotOk reg) then
          let exec : Env → Option R := fun env =>
            bif draw && !fixed reg i then
              bif (hotN reg i env).all (fun n => Nat.blt n O.length) then
                evB C o env (fun d => run C L fin n { fr with env := putD o.dst d env, todo := .ops reg (i + 1) draw :: k } st O) <| evR C o env (deads (hotN reg i env) O) O.length
                  (bif nodupB (hotN reg i env) then (match o.op with
                    | .store _ (.tmp a) _ => bif isPtrD (look env a) then evW C o env O O.length fun d O' => run C L fin n { fr with env := putD o.dst d env, todo := .ops reg (i + 1) draw :: k } st O' else none
                    | _ => none) else none)
                  fun d news => run C L fin n { fr with env := putD o.dst d env, todo := .ops reg (i + 1) draw :: k } st (O ++ news)
              else none
            else
            evR C o env O O.length
              (bif frzQ C o env O then run C L fin n { fr with env := fzE O (needF C o env) env, todo := .ops reg i draw :: k } (fzS O (needF C o env) st) (fzH O (needF C o env) 0 O) else
                match o.op with
                | .call c => (match c.callee with
                  | .builtin _ => evW C o env O O.length fun d O' => run C L fin n { fr with env := putD o.dst d env, todo := .ops reg (i + 1) draw :: k } st O'
                  | _ => (match target C.P env c with
                    | some (g, args) => (match enter C.P g args with
                      | some f => run C L fin n f ({ fr with env := env, todo := .ops reg i draw :: k } :: st) O
                      | none => none)
                    | none => none))
                | _ => evW C o env O O.length fun d O' => run C L fin n { fr with env := putD o.dst d env, todo := .ops reg (i + 1) draw :: k } st O')
              fun d news => run C L fin n { fr with env := putD o.dst d env, todo := .ops reg (i + 1) draw :: k } st (O ++ news)
          match o.guard with
          | none => exec fr.env
          | some (j, want) => (match (reg[j]?).bind (·.dst) with
            | some t => (match look fr.env t with
              | .dat .bool v => bif v then
                  (bif want then exec ((t, .dat .bool true) :: fr.env) else run C L fin n { fr with env := putD o.dst (.raw undef) ((t, .dat .bool true) :: fr.env), todo := .ops reg (i + 1) draw :: k } st O)
                else
                  (bif want then run C L fin n { fr with env := putD o.dst (.raw undef) ((t, .dat .bool false) :: fr.env), todo := .ops reg (i + 1) draw :: k } st O else exec ((t, .dat .bool false) :: fr.env))
              | .raw (.tuple _) => run C L fin n { fr with env := putD o.dst (.raw undef) fr.env, todo := .ops reg (i + 1) draw :: k } st O
              | _ => none)
            | none => none)
        else none
end
end Go.AM
