/- DERIVED. NO CLAIM IN IT. -/
import Derived.Test.YteopbgebpgchfaaL09Base
import Derived.Test.YteopbgebpgchfaaAmOwn
set_option linter.unusedVariables false
namespace Go.AM.L09
open Go.Proofs
def wr (n : Int) : Int := IntKind.i64.wrap n
@[reducible] def I : Ty := .int .i64
@[reducible] def L : Ty := .sl I
@[reducible] def aT : Ty := .st (.cons L (.cons L L))
@[reducible] def hT : Ty := .st (.cons (.int .i64) (.cons (.int .i64) (.cons .bool .bool)))
def cutsRight : List Cut := [⟨14, 5, [(32, none), (1, none), (30, none), (31, none)]⟩]
noncomputable def clone_e (xs : List Int) (K : Fr → List Fr → Heap → Option (List Int)) : Option (List (El I)) :=
  bif List.isEmpty xs then
   join (
    some ([])
   ) (
    bif limit 8 ((↑0 : Int) + (↑(List.length xs) : Int)) && true && true && true then
     some (xs)
    else
     none
   )
  else
  bif limit 8 ((↑0 : Int) + (↑(List.length xs) : Int)) && true && true && true then
   some (xs)
  else
   none
theorem clone_t (xs : List Int) (K : Fr → List Fr → Heap → Option (List Int)) : bigK C0 [] (finO 3 I) 400 K 3 (startA Try.prog 44 [.dat L xs]) [] [] =
    clone_e xs K := by kernel_rfl

noncomputable def right_e (K : Fr → List Fr → Heap → Option (DV × List Blk)) (a : List Int × List Int × List Int) : Option (DV × List Blk) :=
  bif decide ((↑(List.length (Prod.fst a)) : Int) < 1) then
   some ((DV.dat Ty.bool false, []))
  else
  bif decide ((↑(List.length (Prod.fst a)) : Int) > 1000) then
   some ((DV.dat Ty.bool false, []))
  else
  bif (↑(List.length (Prod.fst (Prod.snd a))) : Int) != (↑(List.length (Prod.fst a)) : Int) then
   some ((DV.dat Ty.bool false, []))
  else
  bif (↑(List.length (Prod.snd (Prod.snd a))) : Int) != (↑(List.length (Prod.fst a)) : Int) then
   some ((DV.dat Ty.bool false, []))
  else
   K (headS Try.prog 14 5 [(32, DV.dat (Ty.int .i64) 0), (1, DV.ptr 0 0), (30, DV.dat (Ty.sl (Ty.int .i64)) (Prod.fst a)), (31, DV.dat (Ty.int .i64) (↑(List.length (Prod.fst a)) : Int))]) [] [Blk.cells 26 [DV.dat (Ty.sl (Ty.int .i64)) (Prod.fst a), DV.dat (Ty.sl (Ty.int .i64)) (Prod.fst (Prod.snd a)), DV.dat (Ty.sl (Ty.int .i64)) (Prod.snd (Prod.snd a))]]
theorem right_t (K : Fr → List Fr → Heap → Option (DV × List Blk)) (a : List Int × List Int × List Int) : bigK C0 cutsRight (finF Try.prog [some .bool]) 400 K 3 (startA Try.prog 14 [.dat aT a]) [] [] =
    right_e K a := by kernel_rfl

noncomputable def rightL_e (K : Fr → List Fr → Heap → Option (DV × List Blk)) (i : Int) (xs ys zs : List Int) : Option (DV × List Blk) :=
  bif decide (i < (↑(List.length xs) : Int)) then
   bif ins xs i then
    bif rd (zel I) xs i == 1 then
     bif ins zs i then
      bif decide (rd (zel I) zs i ≥ 0) then
       bif !decide (rd (zel I) zs i < 64) then
        some ((DV.dat Ty.bool false, []))
       else
       bif ins ys i then
        bif decide (rd (zel I) ys i < 0) then
         some ((DV.dat Ty.bool false, []))
        else
        bif ins ys i then
         bif decide (rd (zel I) ys i > 68719476735) then
          some ((DV.dat Ty.bool false, []))
         else
          K (headS Try.prog 14 5 [(32, DV.dat (Ty.int .i64) (wr (i + 1))), (1, DV.ptr 0 0), (30, DV.dat (Ty.sl (Ty.int .i64)) xs), (31, DV.dat (Ty.int .i64) (↑(List.length xs) : Int))]) [] [Blk.cells 26 [DV.dat (Ty.sl (Ty.int .i64)) xs, DV.dat (Ty.sl (Ty.int .i64)) ys, DV.dat (Ty.sl (Ty.int .i64)) zs]]
        else
         none
       else
        none
      else
       some ((DV.dat Ty.bool false, []))
     else
      none
    else
    bif rd (zel I) xs i == 0 then
     bif ins zs i then
      bif rd (zel I) zs i != -1 then
       some ((DV.dat Ty.bool false, []))
      else
      bif ins ys i then
       bif decide (rd (zel I) ys i < 0) then
        some ((DV.dat Ty.bool false, []))
       else
       bif ins ys i then
        bif decide (rd (zel I) ys i > 68719476735) then
         some ((DV.dat Ty.bool false, []))
        else
         K (headS Try.prog 14 5 [(32, DV.dat (Ty.int .i64) (wr (i + 1))), (1, DV.ptr 0 0), (30, DV.dat (Ty.sl (Ty.int .i64)) xs), (31, DV.dat (Ty.int .i64) (↑(List.length xs) : Int))]) [] [Blk.cells 26 [DV.dat (Ty.sl (Ty.int .i64)) xs, DV.dat (Ty.sl (Ty.int .i64)) ys, DV.dat (Ty.sl (Ty.int .i64)) zs]]
       else
        none
      else
       none
     else
      none
    else
    bif rd (zel I) xs i == 2 then
     bif ins zs i then
      bif rd (zel I) zs i != -1 then
       some ((DV.dat Ty.bool false, []))
      else
      bif ins ys i then
       bif decide (rd (zel I) ys i < 0) then
        some ((DV.dat Ty.bool false, []))
       else
       bif ins ys i then
        bif decide (rd (zel I) ys i > 68719476735) then
         some ((DV.dat Ty.bool false, []))
        else
         K (headS Try.prog 14 5 [(32, DV.dat (Ty.int .i64) (wr (i + 1))), (1, DV.ptr 0 0), (30, DV.dat (Ty.sl (Ty.int .i64)) xs), (31, DV.dat (Ty.int .i64) (↑(List.length xs) : Int))]) [] [Blk.cells 26 [DV.dat (Ty.sl (Ty.int .i64)) xs, DV.dat (Ty.sl (Ty.int .i64)) ys, DV.dat (Ty.sl (Ty.int .i64)) zs]]
       else
        none
      else
       none
     else
      none
    else
    bif rd (zel I) xs i == 3 then
     bif ins zs i then
      bif rd (zel I) zs i != -1 then
       some ((DV.dat Ty.bool false, []))
      else
      bif ins ys i then
       bif decide (rd (zel I) ys i < 0) then
        some ((DV.dat Ty.bool false, []))
       else
       bif ins ys i then
        bif decide (rd (zel I) ys i > 68719476735) then
         some ((DV.dat Ty.bool false, []))
        else
         K (headS Try.prog 14 5 [(32, DV.dat (Ty.int .i64) (wr (i + 1))), (1, DV.ptr 0 0), (30, DV.dat (Ty.sl (Ty.int .i64)) xs), (31, DV.dat (Ty.int .i64) (↑(List.length xs) : Int))]) [] [Blk.cells 26 [DV.dat (Ty.sl (Ty.int .i64)) xs, DV.dat (Ty.sl (Ty.int .i64)) ys, DV.dat (Ty.sl (Ty.int .i64)) zs]]
       else
        none
      else
       none
     else
      none
    else
     some ((DV.dat Ty.bool false, []))
   else
    none
  else
   some ((DV.dat Ty.bool true, []))
theorem rightL_t (K : Fr → List Fr → Heap → Option (DV × List Blk)) (i : Int) (xs ys zs : List Int) : bigK C0 cutsRight (finF Try.prog [some .bool]) 400 K 3 (headS Try.prog 14 5 [(32, .dat I i), (1, .ptr 0 0), (30, .dat L xs), (31, .dat I (xs.length : Int))]) [] [.cells 26 [.dat L xs, .dat L ys, .dat L zs]] =
    rightL_e K i xs ys zs := by kernel_rfl

end Go.AM.L09
