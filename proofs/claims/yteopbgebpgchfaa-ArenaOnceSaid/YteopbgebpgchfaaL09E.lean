/- DERIVED. NO CLAIM IN IT. The context for the statements. -/
import Derived.Test.YteopbgebpgchfaaL09D
set_option linter.unusedVariables false
set_option linter.unusedSimpArgs false
namespace Go.AM.L09
open Go.RowKit Go.Proofs Go.IntWalk

noncomputable def C3 : Ctx := (((((((((((C2.also 15 newS).also 16 newS).also 10 takeS).also 11 pubS).also 12 retS).also 13 backS).also 9 chkS).also 17 takeS).also 18 pubS).also 19 retS).also 20 backS)
theorem ok3 : C3.OK := ((((((((((ok2.also newC Try.func15 rfl).also rnewC Try.func16 rfl).also takeC Try.func10 rfl).also pubC Try.func11 rfl).also retC Try.func12 rfl).also backC Try.func13 rfl).also chkC Try.func9 rfl).also rtakeC Try.func17 rfl).also rpubC Try.func18 rfl).also rretC Try.func19 rfl).also rbackC Try.func20 rfl
def trueS : Spec := fnSpec [] (fun _ => true) (fun _ => .dat .bool true)
theorem awakeC : Contract Try.prog 6 trueS := contract_fnG (C := C3) ok3 Try.func6 rfl (rs := [some .bool]) rfl rfl fun _ _ => good_step ok3 (T := []) (fuel := 1000) (n := 40) (by kernel_rfl)
noncomputable def C4 : Ctx := C3.also 6 trueS
theorem ok4 : C4.OK := ok3.also awakeC Try.func6 rfl

abbrev T3 := Int × Int × Int
abbrev RT : Ty := .sl (.st (.cons I (.cons I I)))
abbrev PT : Ty := .sl (.st (.cons I I))
def hOf (a : A) (s : Int) : H := (s, veA a s, false, false)
/-- One raw step. -/
def stepF (a : A) (r : T3) : A :=
  let s := pickF r.2.1 a.1.length
  let t := pickF r.2.2 3
  bif pickF r.1 5 == 0 then (takeF a t s).1 else bif pickF r.1 5 == 1 then (pubF a t (hOf a s)).1 else bif pickF r.1 5 == 2 then (retF a (hOf a s)).1 else bif pickF r.1 5 == 3 then (backF a (hOf a s)).1 else
    (pubF (takeF a t s).1 t (hOf (takeF a t s).1 s)).1
def arenaF (n : Int) (raw : List T3) : A := (raw.take 40).foldl stepF (newF (wr (1 + pickF n 6)).toNat)
/-- Numbers that an int has. -/
def i6 (c : Int) : Bool := decide (-9223372036854775808 ≤ c) && decide (c ≤ 9223372036854775807)
def rawB (raw : List T3) : Bool := raw.all fun r => i6 r.1 && i6 r.2.1 && i6 r.2.2
def arenaS : Spec := fnSpec [I, RT] (fun a => i6 a.1 && rawB a.2.1) (fun a => .dat aT (arenaF a.1 a.2.1))
def cuts7 : List Cut := [⟨7, 3, [(6, none), (5, none), (1, none), (4, none)]⟩]
def cuts3 : List Cut := [⟨3, 12, [(16, none), (10, none), (15, none), (13, none), (12, none), (3, none), (9, none)]⟩]
def cuts5 : List Cut := [⟨5, 6, [(11, none), (9, none), (10, none), (8, none), (2, none), (7, none)]⟩]
noncomputable def C5 : Ctx := C4.also 7 arenaS
def heapA7 (a : A) : Heap := [.cells 26 [.dat L a.1, .dat L a.2.1, .dat L a.2.2], .cells 26 [.raw (.slice none 0 0), .raw (.slice none 0 0), .raw (.slice none 0 0)]]
def heap3 (a : A) (h : H) : Heap := [.cells 26 [.dat L a.1, .dat L a.2.1, .dat L a.2.2], .cells 32 [.dat I h.1, .dat I h.2.1, .dat .bool h.2.2.1, .dat .bool h.2.2.2]]
def heap5 (a : A) : Heap := [.cells 26 [.dat L a.1, .dat L a.2.1, .dat L a.2.2]]
def env7 (i : Int) (raw : List T3) : Env := [(6, .dat I i), (5, .ptr 0 0), (1, .dat RT raw), (4, .ptr 1 0)]
def env3 (i n : Int) (alive ok : Bool) (raw : List T3) : Env := [(16, .dat I i), (10, .ptr 0 0), (15, .dat .bool alive), (13, .ptr 1 0), (12, .dat I n), (3, .dat RT raw), (9, .dat .bool ok)]
def env5 (i n s : Int) (ok : Bool) (raw : List (Int × Int)) : Env := [(11, .dat I i), (9, .ptr 0 0), (10, .dat I s), (8, .dat I n), (2, .dat PT raw), (7, .dat .bool ok)]
end Go.AM.L09
