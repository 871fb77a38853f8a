/- DERIVED. NO CLAIM IN IT. What the functions of this seat compute. -/
import Derived.Test.YtigfnidgpmfneaaL01Base
set_option linter.unusedVariables false
set_option linter.unusedSimpArgs false
namespace Go.AM.L01
open Go.RowKit Go.Proofs

@[reducible] def I : Ty := .int .i64
@[reducible] def hT : Ty := .st (.cons (.int .i64) (.cons (.int .i64) (.cons .bool .bool)))
abbrev H := Int × Int × Bool × Bool
def wr (n : Int) : Int := IntKind.i64.wrap n
def sl (k : Nat) (a : Int) : Int := wr (a * 2 ^ min (Int.toNat k) IntKind.i64.bits)
def sr (k : Nat) (a : Int) : Int := a.fdiv (2 ^ min (Int.toNat k) IntKind.i64.bits)
def band (a b : Int) : Int := wr (BitVec.ofInt IntKind.i64.bits a &&& BitVec.ofInt IntKind.i64.bits b).toNat
def bor (a b : Int) : Int := wr (BitVec.ofInt IntKind.i64.bits a ||| BitVec.ofInt IntKind.i64.bits b).toNat
def bclr (a b : Int) : Int := wr (BitVec.ofInt IntKind.i64.bits a &&& ~~~BitVec.ofInt IntKind.i64.bits b).toNat

theorem cond_app {α β : Type} (f : α → β) (c : Bool) (x y : α) : (bif c then f x else f y) = f (bif c then x else y) := by cases c <;> rfl

/-! ### pick -/
def pickF (c n : Int) : Int := bif decide (c < 0) then (wr (0 - wr (c + 1))).tmod n else c.tmod n
def pickS : Spec := fnSpec [I, I] (fun a => !(a.2.1 == 0)) (fun a => .dat I (pickF a.1 a.2.1))
theorem pickT (k : Nat) (c n : Int) : big C0 [] (finF Try.prog [none]) 400 (k + 1) (startA Try.prog 12 [.dat I c, .dat I n]) [] [] =
    bif decide (c < 0) then (bif n == 0 then none else some (.dat I ((wr (0 - wr (c + 1))).tmod n), [])) else bif n == 0 then none else some (.dat I (c.tmod n), []) := by kernel_rfl
theorem pickC : Contract Try.prog 12 pickS := contract_fn (C := C0) ok0 Try.func12 rfl (T := []) (fuel := 400) (rs := [none]) rfl rfl fun ⟨c, n, _⟩ hp => ⟨1, by
  have hn : (n == 0) = false := by simpa using hp
  refine (pickT 0 c n).trans ?_
  simp only [hn, pickF, cond_false]
  cases decide (c < 0) <;> rfl⟩
noncomputable def C1 : Ctx := C0.also 12 pickS
theorem ok1 : C1.OK := ok0.also pickC Try.func12 rfl

/-! ### Handle -/
def handF (a b c : Int) : H := (pickF a 1048576, pickF b 68719476736, (pickF c 4).tmod 2 == 1, decide (pickF c 4 ≥ 2))
def handS : Spec := fnSpec [I, I, I] (fun _ => true) (fun a => .dat hT (handF a.1 a.2.1 a.2.2.1))
theorem handT (k : Nat) (a b c : Int) : big C1 [] (finF Try.prog [none]) 400 (k + 1) (startA Try.prog 9 [.dat I a, .dat I b, .dat I c]) [] [] = some (.dat hT (handF a b c), []) := by kernel_rfl
theorem handC : Contract Try.prog 9 handS := contract_fn (C := C1) ok1 Try.func9 rfl (T := []) (fuel := 400) (rs := [none]) rfl rfl fun ⟨a, b, c, _⟩ _ => ⟨1, handT 0 a b c⟩
noncomputable def C2 : Ctx := C1.also 9 handS
theorem ok2 : C2.OK := ok1.also handC Try.func9 rfl

/-! ### Unpack -/
def errF (a : Int) : Int := bif a == 0 then 10 else bif decide (sr 2 a < 1) then 1 else bif decide (sr 20 (wr (sr 2 a - 1)) > 68719476735) then 1 else 0
def unpH (a : Int) : H := (band (wr (sr 2 a - 1)) 1048575, sr 20 (wr (sr 2 a - 1)), band a 1 != 0, band a 2 != 0)
def unpF (a : Int) : H := bif errF a == 0 then unpH a else (0, 0, false, false)
def unpS : Spec := fnSpec [I] (fun _ => true) (fun a => .tup [.dat hT (unpF a.1), .dat I (errF a.1)])
theorem unpT (k : Nat) (a : Int) : big C0 [] (finF Try.prog [none, none]) 400 (k + 5) (startA Try.prog 13 [.dat I a]) [] [] =
    bif a == 0 then some (.tup [.dat hT ((0, 0, false, false) : H), .dat I (10 : Int)], []) else bif decide (sr 2 a < 1) then some (.tup [.dat hT ((0, 0, false, false) : H), .dat I (1 : Int)], []) else
      bif decide (sr 20 (wr (sr 2 a - 1)) > 68719476735) then some (.tup [.dat hT ((0, 0, false, false) : H), .dat I (1 : Int)], []) else some (.tup [.dat hT (unpH a), .dat I (0 : Int)], []) := by kernel_rfl
theorem unpC : Contract Try.prog 13 unpS := contract_fn (C := C0) ok0 Try.func13 rfl (T := []) (fuel := 400) (rs := [none, none]) rfl rfl fun ⟨a, _⟩ _ => ⟨5, by
  refine (unpT 0 a).trans ?_
  simp only [unpF, errF]
  cases (a == 0) <;> cases decide (sr 2 a < 1) <;> cases decide (sr 20 (wr (sr 2 a - 1)) > 68719476735) <;> rfl⟩

/-! ### Bare, Same, Pack, With, awake -/
def bareF (a : Int) : Int := bif errF a == 0 then bclr a 3 else 0
def bareS : Spec := fnSpec [I] (fun _ => true) (fun a => .dat I (bareF a.1))
theorem bareT (k : Nat) (a : Int) : big C0 [] (finF Try.prog [none]) 400 (k + 5) (startA Try.prog 17 [.dat I a]) [] [] =
    bif a == 0 then some (.dat I (0 : Int), []) else bif decide (sr 2 a < 1) then some (.dat I (0 : Int), []) else bif decide (sr 20 (wr (sr 2 a - 1)) > 68719476735) then some (.dat I (0 : Int), []) else some (.dat I (bclr a 3), []) := by kernel_rfl
theorem bareC : Contract Try.prog 17 bareS := contract_fn (C := C0) ok0 Try.func17 rfl (T := []) (fuel := 400) (rs := [none]) rfl rfl fun ⟨a, _⟩ _ => ⟨5, by
  refine (bareT 0 a).trans ?_
  simp only [bareF, errF]
  cases (a == 0) <;> cases decide (sr 2 a < 1) <;> cases decide (sr 20 (wr (sr 2 a - 1)) > 68719476735) <;> rfl⟩
noncomputable def CB : Ctx := C0.also 17 bareS
theorem okB : CB.OK := ok0.also bareC Try.func17 rfl

def sameF (a b : Int) : Bool := bif bareF a == bareF b then bareF a != 0 else false
def sameS : Spec := fnSpec [I, I] (fun _ => true) (fun a => .dat .bool (sameF a.1 a.2.1))
theorem sameT (k : Nat) (a b : Int) : big CB [] (finF Try.prog [none]) 400 (k + 5) (startA Try.prog 19 [.dat I a, .dat I b]) [] [] =
    bif bareF a == bareF b then some (.dat .bool (bareF a != 0), []) else some (.dat .bool false, []) := by kernel_rfl
theorem sameC : Contract Try.prog 19 sameS := contract_fn (C := CB) okB Try.func19 rfl (T := []) (fuel := 400) (rs := [none]) rfl rfl fun ⟨a, b, _⟩ _ => ⟨5, by
  refine (sameT 0 a b).trans ?_
  simp only [sameF]
  cases (bareF a == bareF b) <;> rfl⟩

def setF (n : Int) (m f : Bool) : Int := bif m then bif f then bor (bor (sl 2 n) 1) 2 else bor (sl 2 n) 1 else bif f then bor (sl 2 n) 2 else sl 2 n
def packE (h : H) : Int := bif decide (h.1 < 0) then 1 else bif decide (h.1 > 1048575) then 1 else bif decide (h.2.1 < 0) then 1 else bif decide (h.2.1 > 68719476735) then 1 else 0
def packF (h : H) : Int := bif packE h == 0 then setF (wr (bor (sl 20 h.2.1) h.1 + 1)) h.2.2.1 h.2.2.2 else 0
def packS : Spec := fnSpec [hT] (fun _ => true) (fun a => .tup [.dat I (packF a.1), .dat I (packE a.1)])
def two (a b : Int) : Option (DV × List Blk) := some (.tup [.dat I a, .dat I b], [])
theorem packT (k : Nat) (h : H) : big C0 [] (finF Try.prog [none, none]) 400 (k + 5) (startA Try.prog 10 [.dat hT h]) [] [] =
    bif decide (h.1 < 0) then two 0 1 else bif decide (h.1 > 1048575) then two 0 1 else bif decide (h.2.1 < 0) then two 0 1 else bif decide (h.2.1 > 68719476735) then two 0 1 else
      bif h.2.2.1 then bif h.2.2.2 then two (bor (bor (sl 2 (wr (bor (sl 20 h.2.1) h.1 + 1))) 1) 2) 0 else two (bor (sl 2 (wr (bor (sl 20 h.2.1) h.1 + 1))) 1) 0 else
        bif h.2.2.2 then two (bor (sl 2 (wr (bor (sl 20 h.2.1) h.1 + 1))) 2) 0 else two (sl 2 (wr (bor (sl 20 h.2.1) h.1 + 1))) 0 := by kernel_rfl
theorem packC : Contract Try.prog 10 packS := contract_fn (C := C0) ok0 Try.func10 rfl (T := []) (fuel := 400) (rs := [none, none]) rfl rfl fun ⟨h, _⟩ _ => ⟨5, by
  refine (packT 0 h).trans ?_
  simp only [packF, packE, setF]
  cases decide (h.1 < 0) <;> cases decide (h.1 > 1048575) <;> cases decide (h.2.1 < 0) <;> cases decide (h.2.1 > 68719476735) <;> cases h.2.2.1 <;> cases h.2.2.2 <;> rfl⟩

def withF (a : Int) (m f : Bool) : Int := bif errF a == 0 then setF (sr 2 a) m f else 0
def withS : Spec := fnSpec [I, .bool, .bool] (fun _ => true) (fun a => .tup [.dat I (withF a.1 a.2.1 a.2.2.1), .dat I (errF a.1)])
theorem withT (k : Nat) (a : Int) (m f : Bool) : big C0 [] (finF Try.prog [none, none]) 400 (k + 5) (startA Try.prog 15 [.dat I a, .dat .bool m, .dat .bool f]) [] [] =
    bif a == 0 then two 0 10 else bif decide (sr 2 a < 1) then two 0 1 else bif decide (sr 20 (wr (sr 2 a - 1)) > 68719476735) then two 0 1 else
      bif m then bif f then two (bor (bor (sl 2 (sr 2 a)) 1) 2) 0 else two (bor (sl 2 (sr 2 a)) 1) 0 else bif f then two (bor (sl 2 (sr 2 a)) 2) 0 else two (sl 2 (sr 2 a)) 0 := by kernel_rfl
theorem withC : Contract Try.prog 15 withS := contract_fn (C := C0) ok0 Try.func15 rfl (T := []) (fuel := 400) (rs := [none, none]) rfl rfl fun ⟨a, m, f, _⟩ _ => ⟨5, by
  refine (withT 0 a m f).trans ?_
  simp only [withF, errF, setF]
  cases (a == 0) <;> cases decide (sr 2 a < 1) <;> cases decide (sr 20 (wr (sr 2 a - 1)) > 68719476735) <;> cases m <;> cases f <;> rfl⟩

def trueS : Spec := fnSpec [] (fun _ => true) (fun _ => .dat .bool true)
theorem awakeC : Contract Try.prog 8 trueS := contract_fn (C := C0) ok0 Try.func8 rfl (T := []) (fuel := 4000) (rs := [none]) rfl rfl fun _ _ => ⟨9, by kernel_rfl⟩

/-- All that the laws call of the program. -/
noncomputable def C3 : Ctx := (((((((C0.also 12 pickS).also 9 handS).also 13 unpS).also 17 bareS).also 19 sameS).also 10 packS).also 15 withS).also 8 trueS
theorem ok3 : C3.OK := (((((((ok0.also pickC Try.func12 rfl).also handC Try.func9 rfl).also unpC Try.func13 rfl).also bareC Try.func17 rfl).also sameC Try.func19 rfl).also packC Try.func10 rfl).also withC Try.func15 rfl).also awakeC Try.func8 rfl
end Go.AM.L01
