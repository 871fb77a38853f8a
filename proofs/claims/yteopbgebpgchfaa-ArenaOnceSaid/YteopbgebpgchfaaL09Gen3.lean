/- DERIVED. NO CLAIM IN IT. What the statements of this seat do, by cases; printed by a program. -/
import Derived.Test.YteopbgebpgchfaaL09E
set_option linter.unusedVariables false
namespace Go.AM.L09
open Go.Proofs
noncomputable def arena0_e (K : KT) (n : Int) (raw : List T3) : Option (DV × List Blk) :=
  bif decide (1 ≤ wr (1 + pickF n 6)) && decide (wr (1 + pickF n 6) ≤ 6) then
   K (headS Try.prog 7 3 [(6, DV.dat (Ty.int .i64) 0), (5, DV.ptr 0 0), (1, DV.dat (Ty.sl (Ty.st (Ty.cons (Ty.int .i64) (Ty.cons (Ty.int .i64) (Ty.int .i64))))) raw), (4, DV.ptr 1 0)]) [] [Blk.cells 26 [DV.dat (Ty.sl (Ty.int .i64)) (Prod.fst (newF (Int.toNat (wr (1 + pickF n 6))))), DV.dat (Ty.sl (Ty.int .i64)) (Prod.fst (Prod.snd (newF (Int.toNat (wr (1 + pickF n 6)))))), DV.dat (Ty.sl (Ty.int .i64)) (Prod.snd (Prod.snd (newF (Int.toNat (wr (1 + pickF n 6))))))], Blk.cells 26 [DV.raw (Value.slice none 0 0), DV.raw (Value.slice none 0 0), DV.raw (Value.slice none 0 0)]]
  else
   none
theorem arena0_t (K : KT) (n : Int) (raw : List T3) : bigK C4 cuts7 (finF Try.prog [some aT]) 1000 K 40 (startA Try.prog 7 [.dat I n, .dat RT raw]) [] [] =
    arena0_e K n raw := by kernel_rfl

noncomputable def arenaL_e (K : KT) (i : Int) (a : A) (raw : List T3) : Option (DV × List Blk) :=
  bif decide (i < (↑(List.length raw) : Int)) then
   bif decide (i < 40) then
    bif ins raw i then
     bif !(↑(List.length (Prod.fst a)) : Int) == 0 then
      bif ins (Prod.fst (Prod.snd a)) (pickF (Prod.fst (Prod.snd (rd (zel (Ty.st (Ty.cons I (Ty.cons I I)))) raw i))) (↑(List.length (Prod.fst a)) : Int)) then
       bif ins raw i then
        bif ins raw i then
         bif pickF (Prod.fst (rd (zel (Ty.st (Ty.cons I (Ty.cons I I)))) raw i)) 5 == 0 then
          bif smB a then
           K (headS Try.prog 7 3 [(6, DV.dat (Ty.int .i64) (wr (i + 1))), (5, DV.ptr 0 0), (1, DV.dat (Ty.sl (Ty.st (Ty.cons (Ty.int .i64) (Ty.cons (Ty.int .i64) (Ty.int .i64))))) raw), (4, DV.ptr 1 0)]) [] [Blk.cells 26 [DV.dat (Ty.sl (Ty.int .i64)) (Prod.fst (Prod.fst (takeF a (pickF (Prod.snd (Prod.snd (rd (zel (Ty.st (Ty.cons I (Ty.cons I I)))) raw i))) 3) (pickF (Prod.fst (Prod.snd (rd (zel (Ty.st (Ty.cons I (Ty.cons I I)))) raw i))) (↑(List.length (Prod.fst a)) : Int))))), DV.dat (Ty.sl (Ty.int .i64)) (Prod.fst (Prod.snd (Prod.fst (takeF a (pickF (Prod.snd (Prod.snd (rd (zel (Ty.st (Ty.cons I (Ty.cons I I)))) raw i))) 3) (pickF (Prod.fst (Prod.snd (rd (zel (Ty.st (Ty.cons I (Ty.cons I I)))) raw i))) (↑(List.length (Prod.fst a)) : Int)))))), DV.dat (Ty.sl (Ty.int .i64)) (Prod.snd (Prod.snd (Prod.fst (takeF a (pickF (Prod.snd (Prod.snd (rd (zel (Ty.st (Ty.cons I (Ty.cons I I)))) raw i))) 3) (pickF (Prod.fst (Prod.snd (rd (zel (Ty.st (Ty.cons I (Ty.cons I I)))) raw i))) (↑(List.length (Prod.fst a)) : Int))))))], Blk.cells 26 [DV.raw (Value.slice none 0 0), DV.raw (Value.slice none 0 0), DV.raw (Value.slice none 0 0)]]
          else
           none
         else
         bif pickF (Prod.fst (rd (zel (Ty.st (Ty.cons I (Ty.cons I I)))) raw i)) 5 == 1 then
          bif smB a then
           K (headS Try.prog 7 3 [(6, DV.dat (Ty.int .i64) (wr (i + 1))), (5, DV.ptr 0 0), (1, DV.dat (Ty.sl (Ty.st (Ty.cons (Ty.int .i64) (Ty.cons (Ty.int .i64) (Ty.int .i64))))) raw), (4, DV.ptr 1 0)]) [] [Blk.cells 26 [DV.dat (Ty.sl (Ty.int .i64)) (Prod.fst (Prod.fst (pubF a (pickF (Prod.snd (Prod.snd (rd (zel (Ty.st (Ty.cons I (Ty.cons I I)))) raw i))) 3) (pickF (Prod.fst (Prod.snd (rd (zel (Ty.st (Ty.cons I (Ty.cons I I)))) raw i))) (↑(List.length (Prod.fst a)) : Int), rd (zel I) (Prod.fst (Prod.snd a)) (pickF (Prod.fst (Prod.snd (rd (zel (Ty.st (Ty.cons I (Ty.cons I I)))) raw i))) (↑(List.length (Prod.fst a)) : Int)), false, false)))), DV.dat (Ty.sl (Ty.int .i64)) (Prod.fst (Prod.snd (Prod.fst (pubF a (pickF (Prod.snd (Prod.snd (rd (zel (Ty.st (Ty.cons I (Ty.cons I I)))) raw i))) 3) (pickF (Prod.fst (Prod.snd (rd (zel (Ty.st (Ty.cons I (Ty.cons I I)))) raw i))) (↑(List.length (Prod.fst a)) : Int), rd (zel I) (Prod.fst (Prod.snd a)) (pickF (Prod.fst (Prod.snd (rd (zel (Ty.st (Ty.cons I (Ty.cons I I)))) raw i))) (↑(List.length (Prod.fst a)) : Int)), false, false))))), DV.dat (Ty.sl (Ty.int .i64)) (Prod.snd (Prod.snd (Prod.fst (pubF a (pickF (Prod.snd (Prod.snd (rd (zel (Ty.st (Ty.cons I (Ty.cons I I)))) raw i))) 3) (pickF (Prod.fst (Prod.snd (rd (zel (Ty.st (Ty.cons I (Ty.cons I I)))) raw i))) (↑(List.length (Prod.fst a)) : Int), rd (zel I) (Prod.fst (Prod.snd a)) (pickF (Prod.fst (Prod.snd (rd (zel (Ty.st (Ty.cons I (Ty.cons I I)))) raw i))) (↑(List.length (Prod.fst a)) : Int)), false, false)))))], Blk.cells 26 [DV.raw (Value.slice none 0 0), DV.raw (Value.slice none 0 0), DV.raw (Value.slice none 0 0)]]
          else
           none
         else
         bif pickF (Prod.fst (rd (zel (Ty.st (Ty.cons I (Ty.cons I I)))) raw i)) 5 == 2 then
          bif smB a then
           K (headS Try.prog 7 3 [(6, DV.dat (Ty.int .i64) (wr (i + 1))), (5, DV.ptr 0 0), (1, DV.dat (Ty.sl (Ty.st (Ty.cons (Ty.int .i64) (Ty.cons (Ty.int .i64) (Ty.int .i64))))) raw), (4, DV.ptr 1 0)]) [] [Blk.cells 26 [DV.dat (Ty.sl (Ty.int .i64)) (Prod.fst (Prod.fst (retF a (pickF (Prod.fst (Prod.snd (rd (zel (Ty.st (Ty.cons I (Ty.cons I I)))) raw i))) (↑(List.length (Prod.fst a)) : Int), rd (zel I) (Prod.fst (Prod.snd a)) (pickF (Prod.fst (Prod.snd (rd (zel (Ty.st (Ty.cons I (Ty.cons I I)))) raw i))) (↑(List.length (Prod.fst a)) : Int)), false, false)))), DV.dat (Ty.sl (Ty.int .i64)) (Prod.fst (Prod.snd (Prod.fst (retF a (pickF (Prod.fst (Prod.snd (rd (zel (Ty.st (Ty.cons I (Ty.cons I I)))) raw i))) (↑(List.length (Prod.fst a)) : Int), rd (zel I) (Prod.fst (Prod.snd a)) (pickF (Prod.fst (Prod.snd (rd (zel (Ty.st (Ty.cons I (Ty.cons I I)))) raw i))) (↑(List.length (Prod.fst a)) : Int)), false, false))))), DV.dat (Ty.sl (Ty.int .i64)) (Prod.snd (Prod.snd (Prod.fst (retF a (pickF (Prod.fst (Prod.snd (rd (zel (Ty.st (Ty.cons I (Ty.cons I I)))) raw i))) (↑(List.length (Prod.fst a)) : Int), rd (zel I) (Prod.fst (Prod.snd a)) (pickF (Prod.fst (Prod.snd (rd (zel (Ty.st (Ty.cons I (Ty.cons I I)))) raw i))) (↑(List.length (Prod.fst a)) : Int)), false, false)))))], Blk.cells 26 [DV.raw (Value.slice none 0 0), DV.raw (Value.slice none 0 0), DV.raw (Value.slice none 0 0)]]
          else
           none
         else
         bif pickF (Prod.fst (rd (zel (Ty.st (Ty.cons I (Ty.cons I I)))) raw i)) 5 == 3 then
          bif smB a then
           K (headS Try.prog 7 3 [(6, DV.dat (Ty.int .i64) (wr (i + 1))), (5, DV.ptr 0 0), (1, DV.dat (Ty.sl (Ty.st (Ty.cons (Ty.int .i64) (Ty.cons (Ty.int .i64) (Ty.int .i64))))) raw), (4, DV.ptr 1 0)]) [] [Blk.cells 26 [DV.dat (Ty.sl (Ty.int .i64)) (Prod.fst (Prod.fst (backF a (pickF (Prod.fst (Prod.snd (rd (zel (Ty.st (Ty.cons I (Ty.cons I I)))) raw i))) (↑(List.length (Prod.fst a)) : Int), rd (zel I) (Prod.fst (Prod.snd a)) (pickF (Prod.fst (Prod.snd (rd (zel (Ty.st (Ty.cons I (Ty.cons I I)))) raw i))) (↑(List.length (Prod.fst a)) : Int)), false, false)))), DV.dat (Ty.sl (Ty.int .i64)) (Prod.fst (Prod.snd (Prod.fst (backF a (pickF (Prod.fst (Prod.snd (rd (zel (Ty.st (Ty.cons I (Ty.cons I I)))) raw i))) (↑(List.length (Prod.fst a)) : Int), rd (zel I) (Prod.fst (Prod.snd a)) (pickF (Prod.fst (Prod.snd (rd (zel (Ty.st (Ty.cons I (Ty.cons I I)))) raw i))) (↑(List.length (Prod.fst a)) : Int)), false, false))))), DV.dat (Ty.sl (Ty.int .i64)) (Prod.snd (Prod.snd (Prod.fst (backF a (pickF (Prod.fst (Prod.snd (rd (zel (Ty.st (Ty.cons I (Ty.cons I I)))) raw i))) (↑(List.length (Prod.fst a)) : Int), rd (zel I) (Prod.fst (Prod.snd a)) (pickF (Prod.fst (Prod.snd (rd (zel (Ty.st (Ty.cons I (Ty.cons I I)))) raw i))) (↑(List.length (Prod.fst a)) : Int)), false, false)))))], Blk.cells 26 [DV.raw (Value.slice none 0 0), DV.raw (Value.slice none 0 0), DV.raw (Value.slice none 0 0)]]
          else
           none
         else
         bif smB a then
          bif ins (Prod.fst (Prod.snd (Prod.fst (takeF a (pickF (Prod.snd (Prod.snd (rd (zel (Ty.st (Ty.cons I (Ty.cons I I)))) raw i))) 3) (pickF (Prod.fst (Prod.snd (rd (zel (Ty.st (Ty.cons I (Ty.cons I I)))) raw i))) (↑(List.length (Prod.fst a)) : Int)))))) (pickF (Prod.fst (Prod.snd (rd (zel (Ty.st (Ty.cons I (Ty.cons I I)))) raw i))) (↑(List.length (Prod.fst a)) : Int)) then
           bif smB (Prod.fst (takeF a (pickF (Prod.snd (Prod.snd (rd (zel (Ty.st (Ty.cons I (Ty.cons I I)))) raw i))) 3) (pickF (Prod.fst (Prod.snd (rd (zel (Ty.st (Ty.cons I (Ty.cons I I)))) raw i))) (↑(List.length (Prod.fst a)) : Int)))) then
            K (headS Try.prog 7 3 [(6, DV.dat (Ty.int .i64) (wr (i + 1))), (5, DV.ptr 0 0), (1, DV.dat (Ty.sl (Ty.st (Ty.cons (Ty.int .i64) (Ty.cons (Ty.int .i64) (Ty.int .i64))))) raw), (4, DV.ptr 1 0)]) [] [Blk.cells 26 [DV.dat (Ty.sl (Ty.int .i64)) (Prod.fst (Prod.fst (pubF (Prod.fst (takeF a (pickF (Prod.snd (Prod.snd (rd (zel (Ty.st (Ty.cons I (Ty.cons I I)))) raw i))) 3) (pickF (Prod.fst (Prod.snd (rd (zel (Ty.st (Ty.cons I (Ty.cons I I)))) raw i))) (↑(List.length (Prod.fst a)) : Int)))) (pickF (Prod.snd (Prod.snd (rd (zel (Ty.st (Ty.cons I (Ty.cons I I)))) raw i))) 3) (pickF (Prod.fst (Prod.snd (rd (zel (Ty.st (Ty.cons I (Ty.cons I I)))) raw i))) (↑(List.length (Prod.fst a)) : Int), rd (zel I) (Prod.fst (Prod.snd (Prod.fst (takeF a (pickF (Prod.snd (Prod.snd (rd (zel (Ty.st (Ty.cons I (Ty.cons I I)))) raw i))) 3) (pickF (Prod.fst (Prod.snd (rd (zel (Ty.st (Ty.cons I (Ty.cons I I)))) raw i))) (↑(List.length (Prod.fst a)) : Int)))))) (pickF (Prod.fst (Prod.snd (rd (zel (Ty.st (Ty.cons I (Ty.cons I I)))) raw i))) (↑(List.length (Prod.fst a)) : Int)), false, false)))), DV.dat (Ty.sl (Ty.int .i64)) (Prod.fst (Prod.snd (Prod.fst (pubF (Prod.fst (takeF a (pickF (Prod.snd (Prod.snd (rd (zel (Ty.st (Ty.cons I (Ty.cons I I)))) raw i))) 3) (pickF (Prod.fst (Prod.snd (rd (zel (Ty.st (Ty.cons I (Ty.cons I I)))) raw i))) (↑(List.length (Prod.fst a)) : Int)))) (pickF (Prod.snd (Prod.snd (rd (zel (Ty.st (Ty.cons I (Ty.cons I I)))) raw i))) 3) (pickF (Prod.fst (Prod.snd (rd (zel (Ty.st (Ty.cons I (Ty.cons I I)))) raw i))) (↑(List.length (Prod.fst a)) : Int), rd (zel I) (Prod.fst (Prod.snd (Prod.fst (takeF a (pickF (Prod.snd (Prod.snd (rd (zel (Ty.st (Ty.cons I (Ty.cons I I)))) raw i))) 3) (pickF (Prod.fst (Prod.snd (rd (zel (Ty.st (Ty.cons I (Ty.cons I I)))) raw i))) (↑(List.length (Prod.fst a)) : Int)))))) (pickF (Prod.fst (Prod.snd (rd (zel (Ty.st (Ty.cons I (Ty.cons I I)))) raw i))) (↑(List.length (Prod.fst a)) : Int)), false, false))))), DV.dat (Ty.sl (Ty.int .i64)) (Prod.snd (Prod.snd (Prod.fst (pubF (Prod.fst (takeF a (pickF (Prod.snd (Prod.snd (rd (zel (Ty.st (Ty.cons I (Ty.cons I I)))) raw i))) 3) (pickF (Prod.fst (Prod.snd (rd (zel (Ty.st (Ty.cons I (Ty.cons I I)))) raw i))) (↑(List.length (Prod.fst a)) : Int)))) (pickF (Prod.snd (Prod.snd (rd (zel (Ty.st (Ty.cons I (Ty.cons I I)))) raw i))) 3) (pickF (Prod.fst (Prod.snd (rd (zel (Ty.st (Ty.cons I (Ty.cons I I)))) raw i))) (↑(List.length (Prod.fst a)) : Int), rd (zel I) (Prod.fst (Prod.snd (Prod.fst (takeF a (pickF (Prod.snd (Prod.snd (rd (zel (Ty.st (Ty.cons I (Ty.cons I I)))) raw i))) 3) (pickF (Prod.fst (Prod.snd (rd (zel (Ty.st (Ty.cons I (Ty.cons I I)))) raw i))) (↑(List.length (Prod.fst a)) : Int)))))) (pickF (Prod.fst (Prod.snd (rd (zel (Ty.st (Ty.cons I (Ty.cons I I)))) raw i))) (↑(List.length (Prod.fst a)) : Int)), false, false)))))], Blk.cells 26 [DV.raw (Value.slice none 0 0), DV.raw (Value.slice none 0 0), DV.raw (Value.slice none 0 0)]]
           else
            none
          else
           none
         else
          none
        else
         none
       else
        none
      else
       none
     else
      none
    else
     none
   else
    some ((DV.dat (Ty.st (Ty.cons (Ty.sl (Ty.int .i64)) (Ty.cons (Ty.sl (Ty.int .i64)) (Ty.sl (Ty.int .i64))))) a, []))
  else
   some ((DV.dat (Ty.st (Ty.cons (Ty.sl (Ty.int .i64)) (Ty.cons (Ty.sl (Ty.int .i64)) (Ty.sl (Ty.int .i64))))) a, []))
theorem arenaL_t (K : KT) (i : Int) (a : A) (raw : List T3) : bigK C4 cuts7 (finF Try.prog [some aT]) 1000 K 40 (headS Try.prog 7 3 (env7 i raw)) [] (heapA7 a) =
    arenaL_e K i a raw := by kernel_rfl

noncomputable def lives0_e (K : KT) (n s : Int) (raw then_ : List T3) : Option (DV × List Blk) :=
  bif i6 n && rawB raw then
   bif !(↑(List.length (Prod.fst (arenaF n raw))) : Int) == 0 then
    bif ins (Prod.fst (arenaF n raw)) (pickF s (↑(List.length (Prod.fst (arenaF n raw))) : Int)) then
     bif rd (zel I) (Prod.fst (arenaF n raw)) (pickF s (↑(List.length (Prod.fst (arenaF n raw))) : Int)) != 0 then
      bif ins (Prod.fst (Prod.snd (arenaF n raw))) (pickF s (↑(List.length (Prod.fst (arenaF n raw))) : Int)) then
       bif smB (arenaF n raw) then
        some ((DV.dat Ty.bool (chkF (arenaF n raw) 0 (pickF s (↑(List.length (Prod.fst (arenaF n raw))) : Int), rd (zel I) (Prod.fst (Prod.snd (arenaF n raw))) (pickF s (↑(List.length (Prod.fst (arenaF n raw))) : Int)), false, false) != 40), []))
       else
        none
      else
       none
     else
     bif smB (arenaF n raw) then
      bif Prod.snd (Prod.snd (takeF (arenaF n raw) 1 (pickF s (↑(List.length (Prod.fst (arenaF n raw))) : Int)))) != 0 then
       some ((DV.dat Ty.bool false, []))
      else
      bif (↑(List.length (Prod.fst (Prod.fst (takeF (arenaF n raw) 1 (pickF s (↑(List.length (Prod.fst (arenaF n raw))) : Int)))))) : Int) != (↑(List.length (Prod.fst (arenaF n raw))) : Int) then
       some ((DV.dat Ty.bool false, []))
      else
      bif (↑(List.length (Prod.fst (Prod.snd (Prod.fst (takeF (arenaF n raw) 1 (pickF s (↑(List.length (Prod.fst (arenaF n raw))) : Int))))))) : Int) != (↑(List.length (Prod.fst (arenaF n raw))) : Int) then
       some ((DV.dat Ty.bool false, []))
      else
      bif smB (Prod.fst (takeF (arenaF n raw) 1 (pickF s (↑(List.length (Prod.fst (arenaF n raw))) : Int)))) then
       bif chkF (Prod.fst (takeF (arenaF n raw) 1 (pickF s (↑(List.length (Prod.fst (arenaF n raw))) : Int)))) 1 (Prod.fst (Prod.snd (takeF (arenaF n raw) 1 (pickF s (↑(List.length (Prod.fst (arenaF n raw))) : Int))))) != 0 then
        some ((DV.dat Ty.bool false, []))
       else
        K (headS Try.prog 3 12 [(16, DV.dat (Ty.int .i64) 0), (10, DV.ptr 0 0), (15, DV.dat Ty.bool true), (13, DV.ptr 1 0), (12, DV.dat (Ty.int .i64) (↑(List.length (Prod.fst (arenaF n raw))) : Int)), (3, DV.dat (Ty.sl (Ty.st (Ty.cons (Ty.int .i64) (Ty.cons (Ty.int .i64) (Ty.int .i64))))) then_), (9, DV.dat Ty.bool true)]) [] [Blk.cells 26 [DV.dat (Ty.sl (Ty.int .i64)) (Prod.fst (Prod.fst (takeF (arenaF n raw) 1 (pickF s (↑(List.length (Prod.fst (arenaF n raw))) : Int))))), DV.dat (Ty.sl (Ty.int .i64)) (Prod.fst (Prod.snd (Prod.fst (takeF (arenaF n raw) 1 (pickF s (↑(List.length (Prod.fst (arenaF n raw))) : Int)))))), DV.dat (Ty.sl (Ty.int .i64)) (Prod.snd (Prod.snd (Prod.fst (takeF (arenaF n raw) 1 (pickF s (↑(List.length (Prod.fst (arenaF n raw))) : Int))))))], Blk.cells 32 [DV.dat (Ty.int .i64) (Prod.fst (Prod.fst (Prod.snd (takeF (arenaF n raw) 1 (pickF s (↑(List.length (Prod.fst (arenaF n raw))) : Int)))))), DV.dat (Ty.int .i64) (Prod.fst (Prod.snd (Prod.fst (Prod.snd (takeF (arenaF n raw) 1 (pickF s (↑(List.length (Prod.fst (arenaF n raw))) : Int))))))), DV.dat Ty.bool (Prod.fst (Prod.snd (Prod.snd (Prod.fst (Prod.snd (takeF (arenaF n raw) 1 (pickF s (↑(List.length (Prod.fst (arenaF n raw))) : Int)))))))), DV.dat Ty.bool (Prod.snd (Prod.snd (Prod.snd (Prod.fst (Prod.snd (takeF (arenaF n raw) 1 (pickF s (↑(List.length (Prod.fst (arenaF n raw))) : Int))))))))]]
      else
       none
     else
      none
    else
     none
   else
    none
  else
   none
theorem lives0_t (K : KT) (n s : Int) (raw then_ : List T3) : bigK C5 cuts3 (finF Try.prog [some .bool]) 1000 K 40 (startA Try.prog 3 [.dat I n, .dat RT raw, .dat I s, .dat RT then_]) [] [] =
    lives0_e K n s raw then_ := by kernel_rfl

noncomputable def livesL_e (K : KT) (i n : Int) (alive ok : Bool) (a : A) (h : H) (raw : List T3) : Option (DV × List Blk) :=
  bif decide (i < (↑(List.length raw) : Int)) then
   bif decide (i < 40) then
    bif ins raw i then
     bif !(↑(List.length (Prod.fst a)) : Int) == 0 then
      bif ins (Prod.fst (Prod.snd a)) (pickF (Prod.fst (Prod.snd (rd (zel (Ty.st (Ty.cons I (Ty.cons I I)))) raw i))) (↑(List.length (Prod.fst a)) : Int)) then
       bif ins raw i then
        bif pickF (Prod.fst (rd (zel (Ty.st (Ty.cons I (Ty.cons I I)))) raw i)) 5 == 0 then
         bif ins raw i then
          bif smB a then
           bif (↑(List.length (Prod.fst (Prod.fst (takeF a (pickF (Prod.snd (Prod.snd (rd (zel (Ty.st (Ty.cons I (Ty.cons I I)))) raw i))) 3) (pickF (Prod.fst (Prod.snd (rd (zel (Ty.st (Ty.cons I (Ty.cons I I)))) raw i))) (↑(List.length (Prod.fst a)) : Int)))))) : Int) != n then
            some ((DV.dat Ty.bool false, []))
           else
           bif (↑(List.length (Prod.fst (Prod.snd (Prod.fst (takeF a (pickF (Prod.snd (Prod.snd (rd (zel (Ty.st (Ty.cons I (Ty.cons I I)))) raw i))) 3) (pickF (Prod.fst (Prod.snd (rd (zel (Ty.st (Ty.cons I (Ty.cons I I)))) raw i))) (↑(List.length (Prod.fst a)) : Int))))))) : Int) != n then
            some ((DV.dat Ty.bool false, []))
           else
           bif smB (Prod.fst (takeF a (pickF (Prod.snd (Prod.snd (rd (zel (Ty.st (Ty.cons I (Ty.cons I I)))) raw i))) 3) (pickF (Prod.fst (Prod.snd (rd (zel (Ty.st (Ty.cons I (Ty.cons I I)))) raw i))) (↑(List.length (Prod.fst a)) : Int)))) then
            bif !(chkF (Prod.fst (takeF a (pickF (Prod.snd (Prod.snd (rd (zel (Ty.st (Ty.cons I (Ty.cons I I)))) raw i))) 3) (pickF (Prod.fst (Prod.snd (rd (zel (Ty.st (Ty.cons I (Ty.cons I I)))) raw i))) (↑(List.length (Prod.fst a)) : Int)))) 1 h == 0) == alive then
             some ((DV.dat Ty.bool false, []))
            else
            bif !rightB (Prod.fst (takeF a (pickF (Prod.snd (Prod.snd (rd (zel (Ty.st (Ty.cons I (Ty.cons I I)))) raw i))) 3) (pickF (Prod.fst (Prod.snd (rd (zel (Ty.st (Ty.cons I (Ty.cons I I)))) raw i))) (↑(List.length (Prod.fst a)) : Int)))) then
             some ((DV.dat Ty.bool false, []))
            else
             K (headS Try.prog 3 12 [(16, DV.dat (Ty.int .i64) (wr (i + 1))), (10, DV.ptr 0 0), (15, DV.dat Ty.bool alive), (13, DV.ptr 1 0), (12, DV.dat (Ty.int .i64) n), (3, DV.dat (Ty.sl (Ty.st (Ty.cons (Ty.int .i64) (Ty.cons (Ty.int .i64) (Ty.int .i64))))) raw), (9, DV.dat Ty.bool ok)]) [] [Blk.cells 26 [DV.dat (Ty.sl (Ty.int .i64)) (Prod.fst (Prod.fst (takeF a (pickF (Prod.snd (Prod.snd (rd (zel (Ty.st (Ty.cons I (Ty.cons I I)))) raw i))) 3) (pickF (Prod.fst (Prod.snd (rd (zel (Ty.st (Ty.cons I (Ty.cons I I)))) raw i))) (↑(List.length (Prod.fst a)) : Int))))), DV.dat (Ty.sl (Ty.int .i64)) (Prod.fst (Prod.snd (Prod.fst (takeF a (pickF (Prod.snd (Prod.snd (rd (zel (Ty.st (Ty.cons I (Ty.cons I I)))) raw i))) 3) (pickF (Prod.fst (Prod.snd (rd (zel (Ty.st (Ty.cons I (Ty.cons I I)))) raw i))) (↑(List.length (Prod.fst a)) : Int)))))), DV.dat (Ty.sl (Ty.int .i64)) (Prod.snd (Prod.snd (Prod.fst (takeF a (pickF (Prod.snd (Prod.snd (rd (zel (Ty.st (Ty.cons I (Ty.cons I I)))) raw i))) 3) (pickF (Prod.fst (Prod.snd (rd (zel (Ty.st (Ty.cons I (Ty.cons I I)))) raw i))) (↑(List.length (Prod.fst a)) : Int))))))], Blk.cells 32 [DV.dat (Ty.int .i64) (Prod.fst h), DV.dat (Ty.int .i64) (Prod.fst (Prod.snd h)), DV.dat Ty.bool (Prod.fst (Prod.snd (Prod.snd h))), DV.dat Ty.bool (Prod.snd (Prod.snd (Prod.snd h)))]]
           else
            none
          else
           none
         else
          none
        else
        bif pickF (Prod.fst (rd (zel (Ty.st (Ty.cons I (Ty.cons I I)))) raw i)) 5 == 4 then
         bif ins raw i then
          bif smB a then
           bif (↑(List.length (Prod.fst (Prod.fst (takeF a (pickF (Prod.snd (Prod.snd (rd (zel (Ty.st (Ty.cons I (Ty.cons I I)))) raw i))) 3) (pickF (Prod.fst (Prod.snd (rd (zel (Ty.st (Ty.cons I (Ty.cons I I)))) raw i))) (↑(List.length (Prod.fst a)) : Int)))))) : Int) != n then
            some ((DV.dat Ty.bool false, []))
           else
           bif (↑(List.length (Prod.fst (Prod.snd (Prod.fst (takeF a (pickF (Prod.snd (Prod.snd (rd (zel (Ty.st (Ty.cons I (Ty.cons I I)))) raw i))) 3) (pickF (Prod.fst (Prod.snd (rd (zel (Ty.st (Ty.cons I (Ty.cons I I)))) raw i))) (↑(List.length (Prod.fst a)) : Int))))))) : Int) != n then
            some ((DV.dat Ty.bool false, []))
           else
           bif smB (Prod.fst (takeF a (pickF (Prod.snd (Prod.snd (rd (zel (Ty.st (Ty.cons I (Ty.cons I I)))) raw i))) 3) (pickF (Prod.fst (Prod.snd (rd (zel (Ty.st (Ty.cons I (Ty.cons I I)))) raw i))) (↑(List.length (Prod.fst a)) : Int)))) then
            bif !(chkF (Prod.fst (takeF a (pickF (Prod.snd (Prod.snd (rd (zel (Ty.st (Ty.cons I (Ty.cons I I)))) raw i))) 3) (pickF (Prod.fst (Prod.snd (rd (zel (Ty.st (Ty.cons I (Ty.cons I I)))) raw i))) (↑(List.length (Prod.fst a)) : Int)))) 1 h == 0) == alive then
             some ((DV.dat Ty.bool false, []))
            else
            bif !rightB (Prod.fst (takeF a (pickF (Prod.snd (Prod.snd (rd (zel (Ty.st (Ty.cons I (Ty.cons I I)))) raw i))) 3) (pickF (Prod.fst (Prod.snd (rd (zel (Ty.st (Ty.cons I (Ty.cons I I)))) raw i))) (↑(List.length (Prod.fst a)) : Int)))) then
             some ((DV.dat Ty.bool false, []))
            else
             K (headS Try.prog 3 12 [(16, DV.dat (Ty.int .i64) (wr (i + 1))), (10, DV.ptr 0 0), (15, DV.dat Ty.bool alive), (13, DV.ptr 1 0), (12, DV.dat (Ty.int .i64) n), (3, DV.dat (Ty.sl (Ty.st (Ty.cons (Ty.int .i64) (Ty.cons (Ty.int .i64) (Ty.int .i64))))) raw), (9, DV.dat Ty.bool ok)]) [] [Blk.cells 26 [DV.dat (Ty.sl (Ty.int .i64)) (Prod.fst (Prod.fst (takeF a (pickF (Prod.snd (Prod.snd (rd (zel (Ty.st (Ty.cons I (Ty.cons I I)))) raw i))) 3) (pickF (Prod.fst (Prod.snd (rd (zel (Ty.st (Ty.cons I (Ty.cons I I)))) raw i))) (↑(List.length (Prod.fst a)) : Int))))), DV.dat (Ty.sl (Ty.int .i64)) (Prod.fst (Prod.snd (Prod.fst (takeF a (pickF (Prod.snd (Prod.snd (rd (zel (Ty.st (Ty.cons I (Ty.cons I I)))) raw i))) 3) (pickF (Prod.fst (Prod.snd (rd (zel (Ty.st (Ty.cons I (Ty.cons I I)))) raw i))) (↑(List.length (Prod.fst a)) : Int)))))), DV.dat (Ty.sl (Ty.int .i64)) (Prod.snd (Prod.snd (Prod.fst (takeF a (pickF (Prod.snd (Prod.snd (rd (zel (Ty.st (Ty.cons I (Ty.cons I I)))) raw i))) 3) (pickF (Prod.fst (Prod.snd (rd (zel (Ty.st (Ty.cons I (Ty.cons I I)))) raw i))) (↑(List.length (Prod.fst a)) : Int))))))], Blk.cells 32 [DV.dat (Ty.int .i64) (Prod.fst h), DV.dat (Ty.int .i64) (Prod.fst (Prod.snd h)), DV.dat Ty.bool (Prod.fst (Prod.snd (Prod.snd h))), DV.dat Ty.bool (Prod.snd (Prod.snd (Prod.snd h)))]]
           else
            none
          else
           none
         else
          none
        else
        bif pickF (Prod.fst (rd (zel (Ty.st (Ty.cons I (Ty.cons I I)))) raw i)) 5 == 1 then
         bif ins raw i then
          bif smB a then
           bif (↑(List.length (Prod.fst (Prod.fst (pubF a (pickF (Prod.snd (Prod.snd (rd (zel (Ty.st (Ty.cons I (Ty.cons I I)))) raw i))) 3) (pickF (Prod.fst (Prod.snd (rd (zel (Ty.st (Ty.cons I (Ty.cons I I)))) raw i))) (↑(List.length (Prod.fst a)) : Int), rd (zel I) (Prod.fst (Prod.snd a)) (pickF (Prod.fst (Prod.snd (rd (zel (Ty.st (Ty.cons I (Ty.cons I I)))) raw i))) (↑(List.length (Prod.fst a)) : Int)), false, false))))) : Int) != n then
            some ((DV.dat Ty.bool false, []))
           else
           bif (↑(List.length (Prod.fst (Prod.snd (Prod.fst (pubF a (pickF (Prod.snd (Prod.snd (rd (zel (Ty.st (Ty.cons I (Ty.cons I I)))) raw i))) 3) (pickF (Prod.fst (Prod.snd (rd (zel (Ty.st (Ty.cons I (Ty.cons I I)))) raw i))) (↑(List.length (Prod.fst a)) : Int), rd (zel I) (Prod.fst (Prod.snd a)) (pickF (Prod.fst (Prod.snd (rd (zel (Ty.st (Ty.cons I (Ty.cons I I)))) raw i))) (↑(List.length (Prod.fst a)) : Int)), false, false)))))) : Int) != n then
            some ((DV.dat Ty.bool false, []))
           else
           bif smB (Prod.fst (pubF a (pickF (Prod.snd (Prod.snd (rd (zel (Ty.st (Ty.cons I (Ty.cons I I)))) raw i))) 3) (pickF (Prod.fst (Prod.snd (rd (zel (Ty.st (Ty.cons I (Ty.cons I I)))) raw i))) (↑(List.length (Prod.fst a)) : Int), rd (zel I) (Prod.fst (Prod.snd a)) (pickF (Prod.fst (Prod.snd (rd (zel (Ty.st (Ty.cons I (Ty.cons I I)))) raw i))) (↑(List.length (Prod.fst a)) : Int)), false, false))) then
            bif !(chkF (Prod.fst (pubF a (pickF (Prod.snd (Prod.snd (rd (zel (Ty.st (Ty.cons I (Ty.cons I I)))) raw i))) 3) (pickF (Prod.fst (Prod.snd (rd (zel (Ty.st (Ty.cons I (Ty.cons I I)))) raw i))) (↑(List.length (Prod.fst a)) : Int), rd (zel I) (Prod.fst (Prod.snd a)) (pickF (Prod.fst (Prod.snd (rd (zel (Ty.st (Ty.cons I (Ty.cons I I)))) raw i))) (↑(List.length (Prod.fst a)) : Int)), false, false))) 1 h == 0) == alive then
             some ((DV.dat Ty.bool false, []))
            else
            bif !rightB (Prod.fst (pubF a (pickF (Prod.snd (Prod.snd (rd (zel (Ty.st (Ty.cons I (Ty.cons I I)))) raw i))) 3) (pickF (Prod.fst (Prod.snd (rd (zel (Ty.st (Ty.cons I (Ty.cons I I)))) raw i))) (↑(List.length (Prod.fst a)) : Int), rd (zel I) (Prod.fst (Prod.snd a)) (pickF (Prod.fst (Prod.snd (rd (zel (Ty.st (Ty.cons I (Ty.cons I I)))) raw i))) (↑(List.length (Prod.fst a)) : Int)), false, false))) then
             some ((DV.dat Ty.bool false, []))
            else
             K (headS Try.prog 3 12 [(16, DV.dat (Ty.int .i64) (wr (i + 1))), (10, DV.ptr 0 0), (15, DV.dat Ty.bool alive), (13, DV.ptr 1 0), (12, DV.dat (Ty.int .i64) n), (3, DV.dat (Ty.sl (Ty.st (Ty.cons (Ty.int .i64) (Ty.cons (Ty.int .i64) (Ty.int .i64))))) raw), (9, DV.dat Ty.bool ok)]) [] [Blk.cells 26 [DV.dat (Ty.sl (Ty.int .i64)) (Prod.fst (Prod.fst (pubF a (pickF (Prod.snd (Prod.snd (rd (zel (Ty.st (Ty.cons I (Ty.cons I I)))) raw i))) 3) (pickF (Prod.fst (Prod.snd (rd (zel (Ty.st (Ty.cons I (Ty.cons I I)))) raw i))) (↑(List.length (Prod.fst a)) : Int), rd (zel I) (Prod.fst (Prod.snd a)) (pickF (Prod.fst (Prod.snd (rd (zel (Ty.st (Ty.cons I (Ty.cons I I)))) raw i))) (↑(List.length (Prod.fst a)) : Int)), false, false)))), DV.dat (Ty.sl (Ty.int .i64)) (Prod.fst (Prod.snd (Prod.fst (pubF a (pickF (Prod.snd (Prod.snd (rd (zel (Ty.st (Ty.cons I (Ty.cons I I)))) raw i))) 3) (pickF (Prod.fst (Prod.snd (rd (zel (Ty.st (Ty.cons I (Ty.cons I I)))) raw i))) (↑(List.length (Prod.fst a)) : Int), rd (zel I) (Prod.fst (Prod.snd a)) (pickF (Prod.fst (Prod.snd (rd (zel (Ty.st (Ty.cons I (Ty.cons I I)))) raw i))) (↑(List.length (Prod.fst a)) : Int)), false, false))))), DV.dat (Ty.sl (Ty.int .i64)) (Prod.snd (Prod.snd (Prod.fst (pubF a (pickF (Prod.snd (Prod.snd (rd (zel (Ty.st (Ty.cons I (Ty.cons I I)))) raw i))) 3) (pickF (Prod.fst (Prod.snd (rd (zel (Ty.st (Ty.cons I (Ty.cons I I)))) raw i))) (↑(List.length (Prod.fst a)) : Int), rd (zel I) (Prod.fst (Prod.snd a)) (pickF (Prod.fst (Prod.snd (rd (zel (Ty.st (Ty.cons I (Ty.cons I I)))) raw i))) (↑(List.length (Prod.fst a)) : Int)), false, false)))))], Blk.cells 32 [DV.dat (Ty.int .i64) (Prod.fst h), DV.dat (Ty.int .i64) (Prod.fst (Prod.snd h)), DV.dat Ty.bool (Prod.fst (Prod.snd (Prod.snd h))), DV.dat Ty.bool (Prod.snd (Prod.snd (Prod.snd h)))]]
           else
            none
          else
           none
         else
          none
        else
        bif pickF (Prod.fst (rd (zel (Ty.st (Ty.cons I (Ty.cons I I)))) raw i)) 5 == 2 then
         bif smB a then
          bif (↑(List.length (Prod.fst (Prod.fst (retF a (pickF (Prod.fst (Prod.snd (rd (zel (Ty.st (Ty.cons I (Ty.cons I I)))) raw i))) (↑(List.length (Prod.fst a)) : Int), rd (zel I) (Prod.fst (Prod.snd a)) (pickF (Prod.fst (Prod.snd (rd (zel (Ty.st (Ty.cons I (Ty.cons I I)))) raw i))) (↑(List.length (Prod.fst a)) : Int)), false, false))))) : Int) != n then
           some ((DV.dat Ty.bool false, []))
          else
          bif (↑(List.length (Prod.fst (Prod.snd (Prod.fst (retF a (pickF (Prod.fst (Prod.snd (rd (zel (Ty.st (Ty.cons I (Ty.cons I I)))) raw i))) (↑(List.length (Prod.fst a)) : Int), rd (zel I) (Prod.fst (Prod.snd a)) (pickF (Prod.fst (Prod.snd (rd (zel (Ty.st (Ty.cons I (Ty.cons I I)))) raw i))) (↑(List.length (Prod.fst a)) : Int)), false, false)))))) : Int) != n then
           some ((DV.dat Ty.bool false, []))
          else
          bif smB (Prod.fst (retF a (pickF (Prod.fst (Prod.snd (rd (zel (Ty.st (Ty.cons I (Ty.cons I I)))) raw i))) (↑(List.length (Prod.fst a)) : Int), rd (zel I) (Prod.fst (Prod.snd a)) (pickF (Prod.fst (Prod.snd (rd (zel (Ty.st (Ty.cons I (Ty.cons I I)))) raw i))) (↑(List.length (Prod.fst a)) : Int)), false, false))) then
           bif !(chkF (Prod.fst (retF a (pickF (Prod.fst (Prod.snd (rd (zel (Ty.st (Ty.cons I (Ty.cons I I)))) raw i))) (↑(List.length (Prod.fst a)) : Int), rd (zel I) (Prod.fst (Prod.snd a)) (pickF (Prod.fst (Prod.snd (rd (zel (Ty.st (Ty.cons I (Ty.cons I I)))) raw i))) (↑(List.length (Prod.fst a)) : Int)), false, false))) 1 h == 0) == alive then
            some ((DV.dat Ty.bool false, []))
           else
           bif !rightB (Prod.fst (retF a (pickF (Prod.fst (Prod.snd (rd (zel (Ty.st (Ty.cons I (Ty.cons I I)))) raw i))) (↑(List.length (Prod.fst a)) : Int), rd (zel I) (Prod.fst (Prod.snd a)) (pickF (Prod.fst (Prod.snd (rd (zel (Ty.st (Ty.cons I (Ty.cons I I)))) raw i))) (↑(List.length (Prod.fst a)) : Int)), false, false))) then
            some ((DV.dat Ty.bool false, []))
           else
            K (headS Try.prog 3 12 [(16, DV.dat (Ty.int .i64) (wr (i + 1))), (10, DV.ptr 0 0), (15, DV.dat Ty.bool alive), (13, DV.ptr 1 0), (12, DV.dat (Ty.int .i64) n), (3, DV.dat (Ty.sl (Ty.st (Ty.cons (Ty.int .i64) (Ty.cons (Ty.int .i64) (Ty.int .i64))))) raw), (9, DV.dat Ty.bool ok)]) [] [Blk.cells 26 [DV.dat (Ty.sl (Ty.int .i64)) (Prod.fst (Prod.fst (retF a (pickF (Prod.fst (Prod.snd (rd (zel (Ty.st (Ty.cons I (Ty.cons I I)))) raw i))) (↑(List.length (Prod.fst a)) : Int), rd (zel I) (Prod.fst (Prod.snd a)) (pickF (Prod.fst (Prod.snd (rd (zel (Ty.st (Ty.cons I (Ty.cons I I)))) raw i))) (↑(List.length (Prod.fst a)) : Int)), false, false)))), DV.dat (Ty.sl (Ty.int .i64)) (Prod.fst (Prod.snd (Prod.fst (retF a (pickF (Prod.fst (Prod.snd (rd (zel (Ty.st (Ty.cons I (Ty.cons I I)))) raw i))) (↑(List.length (Prod.fst a)) : Int), rd (zel I) (Prod.fst (Prod.snd a)) (pickF (Prod.fst (Prod.snd (rd (zel (Ty.st (Ty.cons I (Ty.cons I I)))) raw i))) (↑(List.length (Prod.fst a)) : Int)), false, false))))), DV.dat (Ty.sl (Ty.int .i64)) (Prod.snd (Prod.snd (Prod.fst (retF a (pickF (Prod.fst (Prod.snd (rd (zel (Ty.st (Ty.cons I (Ty.cons I I)))) raw i))) (↑(List.length (Prod.fst a)) : Int), rd (zel I) (Prod.fst (Prod.snd a)) (pickF (Prod.fst (Prod.snd (rd (zel (Ty.st (Ty.cons I (Ty.cons I I)))) raw i))) (↑(List.length (Prod.fst a)) : Int)), false, false)))))], Blk.cells 32 [DV.dat (Ty.int .i64) (Prod.fst h), DV.dat (Ty.int .i64) (Prod.fst (Prod.snd h)), DV.dat Ty.bool (Prod.fst (Prod.snd (Prod.snd h))), DV.dat Ty.bool (Prod.snd (Prod.snd (Prod.snd h)))]]
          else
           none
         else
          none
        else
        bif smB a then
         bif Prod.snd (backF a (pickF (Prod.fst (Prod.snd (rd (zel (Ty.st (Ty.cons I (Ty.cons I I)))) raw i))) (↑(List.length (Prod.fst a)) : Int), rd (zel I) (Prod.fst (Prod.snd a)) (pickF (Prod.fst (Prod.snd (rd (zel (Ty.st (Ty.cons I (Ty.cons I I)))) raw i))) (↑(List.length (Prod.fst a)) : Int)), false, false)) == 0 then
          bif pickF (Prod.fst (Prod.snd (rd (zel (Ty.st (Ty.cons I (Ty.cons I I)))) raw i))) (↑(List.length (Prod.fst a)) : Int) == Prod.fst h && (rd (zel I) (Prod.fst (Prod.snd a)) (pickF (Prod.fst (Prod.snd (rd (zel (Ty.st (Ty.cons I (Ty.cons I I)))) raw i))) (↑(List.length (Prod.fst a)) : Int)) == Prod.fst (Prod.snd h) && (false == Prod.fst (Prod.snd (Prod.snd h)) && false == Prod.snd (Prod.snd (Prod.snd h)))) then
           bif (↑(List.length (Prod.fst (Prod.fst (backF a (pickF (Prod.fst (Prod.snd (rd (zel (Ty.st (Ty.cons I (Ty.cons I I)))) raw i))) (↑(List.length (Prod.fst a)) : Int), rd (zel I) (Prod.fst (Prod.snd a)) (pickF (Prod.fst (Prod.snd (rd (zel (Ty.st (Ty.cons I (Ty.cons I I)))) raw i))) (↑(List.length (Prod.fst a)) : Int)), false, false))))) : Int) != n then
            some ((DV.dat Ty.bool false, []))
           else
           bif (↑(List.length (Prod.fst (Prod.snd (Prod.fst (backF a (pickF (Prod.fst (Prod.snd (rd (zel (Ty.st (Ty.cons I (Ty.cons I I)))) raw i))) (↑(List.length (Prod.fst a)) : Int), rd (zel I) (Prod.fst (Prod.snd a)) (pickF (Prod.fst (Prod.snd (rd (zel (Ty.st (Ty.cons I (Ty.cons I I)))) raw i))) (↑(List.length (Prod.fst a)) : Int)), false, false)))))) : Int) != n then
            some ((DV.dat Ty.bool false, []))
           else
           bif smB (Prod.fst (backF a (pickF (Prod.fst (Prod.snd (rd (zel (Ty.st (Ty.cons I (Ty.cons I I)))) raw i))) (↑(List.length (Prod.fst a)) : Int), rd (zel I) (Prod.fst (Prod.snd a)) (pickF (Prod.fst (Prod.snd (rd (zel (Ty.st (Ty.cons I (Ty.cons I I)))) raw i))) (↑(List.length (Prod.fst a)) : Int)), false, false))) then
            bif !(chkF (Prod.fst (backF a (pickF (Prod.fst (Prod.snd (rd (zel (Ty.st (Ty.cons I (Ty.cons I I)))) raw i))) (↑(List.length (Prod.fst a)) : Int), rd (zel I) (Prod.fst (Prod.snd a)) (pickF (Prod.fst (Prod.snd (rd (zel (Ty.st (Ty.cons I (Ty.cons I I)))) raw i))) (↑(List.length (Prod.fst a)) : Int)), false, false))) 1 h == 0) == false then
             some ((DV.dat Ty.bool false, []))
            else
            bif !rightB (Prod.fst (backF a (pickF (Prod.fst (Prod.snd (rd (zel (Ty.st (Ty.cons I (Ty.cons I I)))) raw i))) (↑(List.length (Prod.fst a)) : Int), rd (zel I) (Prod.fst (Prod.snd a)) (pickF (Prod.fst (Prod.snd (rd (zel (Ty.st (Ty.cons I (Ty.cons I I)))) raw i))) (↑(List.length (Prod.fst a)) : Int)), false, false))) then
             some ((DV.dat Ty.bool false, []))
            else
             K (headS Try.prog 3 12 [(16, DV.dat (Ty.int .i64) (wr (i + 1))), (10, DV.ptr 0 0), (15, DV.dat Ty.bool false), (13, DV.ptr 1 0), (12, DV.dat (Ty.int .i64) n), (3, DV.dat (Ty.sl (Ty.st (Ty.cons (Ty.int .i64) (Ty.cons (Ty.int .i64) (Ty.int .i64))))) raw), (9, DV.dat Ty.bool ok)]) [] [Blk.cells 26 [DV.dat (Ty.sl (Ty.int .i64)) (Prod.fst (Prod.fst (backF a (pickF (Prod.fst (Prod.snd (rd (zel (Ty.st (Ty.cons I (Ty.cons I I)))) raw i))) (↑(List.length (Prod.fst a)) : Int), rd (zel I) (Prod.fst (Prod.snd a)) (pickF (Prod.fst (Prod.snd (rd (zel (Ty.st (Ty.cons I (Ty.cons I I)))) raw i))) (↑(List.length (Prod.fst a)) : Int)), false, false)))), DV.dat (Ty.sl (Ty.int .i64)) (Prod.fst (Prod.snd (Prod.fst (backF a (pickF (Prod.fst (Prod.snd (rd (zel (Ty.st (Ty.cons I (Ty.cons I I)))) raw i))) (↑(List.length (Prod.fst a)) : Int), rd (zel I) (Prod.fst (Prod.snd a)) (pickF (Prod.fst (Prod.snd (rd (zel (Ty.st (Ty.cons I (Ty.cons I I)))) raw i))) (↑(List.length (Prod.fst a)) : Int)), false, false))))), DV.dat (Ty.sl (Ty.int .i64)) (Prod.snd (Prod.snd (Prod.fst (backF a (pickF (Prod.fst (Prod.snd (rd (zel (Ty.st (Ty.cons I (Ty.cons I I)))) raw i))) (↑(List.length (Prod.fst a)) : Int), rd (zel I) (Prod.fst (Prod.snd a)) (pickF (Prod.fst (Prod.snd (rd (zel (Ty.st (Ty.cons I (Ty.cons I I)))) raw i))) (↑(List.length (Prod.fst a)) : Int)), false, false)))))], Blk.cells 32 [DV.dat (Ty.int .i64) (Prod.fst h), DV.dat (Ty.int .i64) (Prod.fst (Prod.snd h)), DV.dat Ty.bool (Prod.fst (Prod.snd (Prod.snd h))), DV.dat Ty.bool (Prod.snd (Prod.snd (Prod.snd h)))]]
           else
            none
          else
          bif (↑(List.length (Prod.fst (Prod.fst (backF a (pickF (Prod.fst (Prod.snd (rd (zel (Ty.st (Ty.cons I (Ty.cons I I)))) raw i))) (↑(List.length (Prod.fst a)) : Int), rd (zel I) (Prod.fst (Prod.snd a)) (pickF (Prod.fst (Prod.snd (rd (zel (Ty.st (Ty.cons I (Ty.cons I I)))) raw i))) (↑(List.length (Prod.fst a)) : Int)), false, false))))) : Int) != n then
           some ((DV.dat Ty.bool false, []))
          else
          bif (↑(List.length (Prod.fst (Prod.snd (Prod.fst (backF a (pickF (Prod.fst (Prod.snd (rd (zel (Ty.st (Ty.cons I (Ty.cons I I)))) raw i))) (↑(List.length (Prod.fst a)) : Int), rd (zel I) (Prod.fst (Prod.snd a)) (pickF (Prod.fst (Prod.snd (rd (zel (Ty.st (Ty.cons I (Ty.cons I I)))) raw i))) (↑(List.length (Prod.fst a)) : Int)), false, false)))))) : Int) != n then
           some ((DV.dat Ty.bool false, []))
          else
          bif smB (Prod.fst (backF a (pickF (Prod.fst (Prod.snd (rd (zel (Ty.st (Ty.cons I (Ty.cons I I)))) raw i))) (↑(List.length (Prod.fst a)) : Int), rd (zel I) (Prod.fst (Prod.snd a)) (pickF (Prod.fst (Prod.snd (rd (zel (Ty.st (Ty.cons I (Ty.cons I I)))) raw i))) (↑(List.length (Prod.fst a)) : Int)), false, false))) then
           bif !(chkF (Prod.fst (backF a (pickF (Prod.fst (Prod.snd (rd (zel (Ty.st (Ty.cons I (Ty.cons I I)))) raw i))) (↑(List.length (Prod.fst a)) : Int), rd (zel I) (Prod.fst (Prod.snd a)) (pickF (Prod.fst (Prod.snd (rd (zel (Ty.st (Ty.cons I (Ty.cons I I)))) raw i))) (↑(List.length (Prod.fst a)) : Int)), false, false))) 1 h == 0) == alive then
            some ((DV.dat Ty.bool false, []))
           else
           bif !rightB (Prod.fst (backF a (pickF (Prod.fst (Prod.snd (rd (zel (Ty.st (Ty.cons I (Ty.cons I I)))) raw i))) (↑(List.length (Prod.fst a)) : Int), rd (zel I) (Prod.fst (Prod.snd a)) (pickF (Prod.fst (Prod.snd (rd (zel (Ty.st (Ty.cons I (Ty.cons I I)))) raw i))) (↑(List.length (Prod.fst a)) : Int)), false, false))) then
            some ((DV.dat Ty.bool false, []))
           else
            K (headS Try.prog 3 12 [(16, DV.dat (Ty.int .i64) (wr (i + 1))), (10, DV.ptr 0 0), (15, DV.dat Ty.bool alive), (13, DV.ptr 1 0), (12, DV.dat (Ty.int .i64) n), (3, DV.dat (Ty.sl (Ty.st (Ty.cons (Ty.int .i64) (Ty.cons (Ty.int .i64) (Ty.int .i64))))) raw), (9, DV.dat Ty.bool ok)]) [] [Blk.cells 26 [DV.dat (Ty.sl (Ty.int .i64)) (Prod.fst (Prod.fst (backF a (pickF (Prod.fst (Prod.snd (rd (zel (Ty.st (Ty.cons I (Ty.cons I I)))) raw i))) (↑(List.length (Prod.fst a)) : Int), rd (zel I) (Prod.fst (Prod.snd a)) (pickF (Prod.fst (Prod.snd (rd (zel (Ty.st (Ty.cons I (Ty.cons I I)))) raw i))) (↑(List.length (Prod.fst a)) : Int)), false, false)))), DV.dat (Ty.sl (Ty.int .i64)) (Prod.fst (Prod.snd (Prod.fst (backF a (pickF (Prod.fst (Prod.snd (rd (zel (Ty.st (Ty.cons I (Ty.cons I I)))) raw i))) (↑(List.length (Prod.fst a)) : Int), rd (zel I) (Prod.fst (Prod.snd a)) (pickF (Prod.fst (Prod.snd (rd (zel (Ty.st (Ty.cons I (Ty.cons I I)))) raw i))) (↑(List.length (Prod.fst a)) : Int)), false, false))))), DV.dat (Ty.sl (Ty.int .i64)) (Prod.snd (Prod.snd (Prod.fst (backF a (pickF (Prod.fst (Prod.snd (rd (zel (Ty.st (Ty.cons I (Ty.cons I I)))) raw i))) (↑(List.length (Prod.fst a)) : Int), rd (zel I) (Prod.fst (Prod.snd a)) (pickF (Prod.fst (Prod.snd (rd (zel (Ty.st (Ty.cons I (Ty.cons I I)))) raw i))) (↑(List.length (Prod.fst a)) : Int)), false, false)))))], Blk.cells 32 [DV.dat (Ty.int .i64) (Prod.fst h), DV.dat (Ty.int .i64) (Prod.fst (Prod.snd h)), DV.dat Ty.bool (Prod.fst (Prod.snd (Prod.snd h))), DV.dat Ty.bool (Prod.snd (Prod.snd (Prod.snd h)))]]
          else
           none
         else
         bif (↑(List.length (Prod.fst (Prod.fst (backF a (pickF (Prod.fst (Prod.snd (rd (zel (Ty.st (Ty.cons I (Ty.cons I I)))) raw i))) (↑(List.length (Prod.fst a)) : Int), rd (zel I) (Prod.fst (Prod.snd a)) (pickF (Prod.fst (Prod.snd (rd (zel (Ty.st (Ty.cons I (Ty.cons I I)))) raw i))) (↑(List.length (Prod.fst a)) : Int)), false, false))))) : Int) != n then
          some ((DV.dat Ty.bool false, []))
         else
         bif (↑(List.length (Prod.fst (Prod.snd (Prod.fst (backF a (pickF (Prod.fst (Prod.snd (rd (zel (Ty.st (Ty.cons I (Ty.cons I I)))) raw i))) (↑(List.length (Prod.fst a)) : Int), rd (zel I) (Prod.fst (Prod.snd a)) (pickF (Prod.fst (Prod.snd (rd (zel (Ty.st (Ty.cons I (Ty.cons I I)))) raw i))) (↑(List.length (Prod.fst a)) : Int)), false, false)))))) : Int) != n then
          some ((DV.dat Ty.bool false, []))
         else
         bif smB (Prod.fst (backF a (pickF (Prod.fst (Prod.snd (rd (zel (Ty.st (Ty.cons I (Ty.cons I I)))) raw i))) (↑(List.length (Prod.fst a)) : Int), rd (zel I) (Prod.fst (Prod.snd a)) (pickF (Prod.fst (Prod.snd (rd (zel (Ty.st (Ty.cons I (Ty.cons I I)))) raw i))) (↑(List.length (Prod.fst a)) : Int)), false, false))) then
          bif !(chkF (Prod.fst (backF a (pickF (Prod.fst (Prod.snd (rd (zel (Ty.st (Ty.cons I (Ty.cons I I)))) raw i))) (↑(List.length (Prod.fst a)) : Int), rd (zel I) (Prod.fst (Prod.snd a)) (pickF (Prod.fst (Prod.snd (rd (zel (Ty.st (Ty.cons I (Ty.cons I I)))) raw i))) (↑(List.length (Prod.fst a)) : Int)), false, false))) 1 h == 0) == alive then
           some ((DV.dat Ty.bool false, []))
          else
          bif !rightB (Prod.fst (backF a (pickF (Prod.fst (Prod.snd (rd (zel (Ty.st (Ty.cons I (Ty.cons I I)))) raw i))) (↑(List.length (Prod.fst a)) : Int), rd (zel I) (Prod.fst (Prod.snd a)) (pickF (Prod.fst (Prod.snd (rd (zel (Ty.st (Ty.cons I (Ty.cons I I)))) raw i))) (↑(List.length (Prod.fst a)) : Int)), false, false))) then
           some ((DV.dat Ty.bool false, []))
          else
           K (headS Try.prog 3 12 [(16, DV.dat (Ty.int .i64) (wr (i + 1))), (10, DV.ptr 0 0), (15, DV.dat Ty.bool alive), (13, DV.ptr 1 0), (12, DV.dat (Ty.int .i64) n), (3, DV.dat (Ty.sl (Ty.st (Ty.cons (Ty.int .i64) (Ty.cons (Ty.int .i64) (Ty.int .i64))))) raw), (9, DV.dat Ty.bool ok)]) [] [Blk.cells 26 [DV.dat (Ty.sl (Ty.int .i64)) (Prod.fst (Prod.fst (backF a (pickF (Prod.fst (Prod.snd (rd (zel (Ty.st (Ty.cons I (Ty.cons I I)))) raw i))) (↑(List.length (Prod.fst a)) : Int), rd (zel I) (Prod.fst (Prod.snd a)) (pickF (Prod.fst (Prod.snd (rd (zel (Ty.st (Ty.cons I (Ty.cons I I)))) raw i))) (↑(List.length (Prod.fst a)) : Int)), false, false)))), DV.dat (Ty.sl (Ty.int .i64)) (Prod.fst (Prod.snd (Prod.fst (backF a (pickF (Prod.fst (Prod.snd (rd (zel (Ty.st (Ty.cons I (Ty.cons I I)))) raw i))) (↑(List.length (Prod.fst a)) : Int), rd (zel I) (Prod.fst (Prod.snd a)) (pickF (Prod.fst (Prod.snd (rd (zel (Ty.st (Ty.cons I (Ty.cons I I)))) raw i))) (↑(List.length (Prod.fst a)) : Int)), false, false))))), DV.dat (Ty.sl (Ty.int .i64)) (Prod.snd (Prod.snd (Prod.fst (backF a (pickF (Prod.fst (Prod.snd (rd (zel (Ty.st (Ty.cons I (Ty.cons I I)))) raw i))) (↑(List.length (Prod.fst a)) : Int), rd (zel I) (Prod.fst (Prod.snd a)) (pickF (Prod.fst (Prod.snd (rd (zel (Ty.st (Ty.cons I (Ty.cons I I)))) raw i))) (↑(List.length (Prod.fst a)) : Int)), false, false)))))], Blk.cells 32 [DV.dat (Ty.int .i64) (Prod.fst h), DV.dat (Ty.int .i64) (Prod.fst (Prod.snd h)), DV.dat Ty.bool (Prod.fst (Prod.snd (Prod.snd h))), DV.dat Ty.bool (Prod.snd (Prod.snd (Prod.snd h)))]]
         else
          none
        else
         none
       else
        none
      else
       none
     else
      none
    else
     none
   else
    some ((DV.dat Ty.bool ok, []))
  else
   some ((DV.dat Ty.bool ok, []))
theorem livesL_t (K : KT) (i n : Int) (alive ok : Bool) (a : A) (h : H) (raw : List T3) : bigK C5 cuts3 (finF Try.prog [some .bool]) 1000 K 40 (headS Try.prog 3 12 (env3 i n alive ok raw)) [] (heap3 a h) =
    livesL_e K i n alive ok a h raw := by kernel_rfl

noncomputable def turns0_e (K : KT) (n s : Int) (raw : List (Int × Int)) : Option (DV × List Blk) :=
  bif decide (1 ≤ wr (1 + pickF n 6)) && decide (wr (1 + pickF n 6) ≤ 6) then
   bif !wr (1 + pickF n 6) == 0 then
    K (headS Try.prog 5 6 [(11, DV.dat (Ty.int .i64) 0), (9, DV.ptr 0 0), (10, DV.dat (Ty.int .i64) (pickF s (wr (1 + pickF n 6)))), (8, DV.dat (Ty.int .i64) (wr (1 + pickF n 6))), (2, DV.dat (Ty.sl (Ty.st (Ty.cons (Ty.int .i64) (Ty.int .i64)))) raw), (7, DV.dat Ty.bool true)]) [] [Blk.cells 26 [DV.dat (Ty.sl (Ty.int .i64)) (Prod.fst (newF (Int.toNat (wr (1 + pickF n 6))))), DV.dat (Ty.sl (Ty.int .i64)) (Prod.fst (Prod.snd (newF (Int.toNat (wr (1 + pickF n 6)))))), DV.dat (Ty.sl (Ty.int .i64)) (Prod.snd (Prod.snd (newF (Int.toNat (wr (1 + pickF n 6))))))]]
   else
    none
  else
   none
theorem turns0_t (K : KT) (n s : Int) (raw : List (Int × Int)) : bigK C5 cuts5 (finF Try.prog [some .bool]) 1000 K 40 (startA Try.prog 5 [.dat I n, .dat I s, .dat PT raw]) [] [] =
    turns0_e K n s raw := by kernel_rfl

noncomputable def turnsL_e (K : KT) (i n s : Int) (ok : Bool) (a : A) (raw : List (Int × Int)) : Option (DV × List Blk) :=
  bif decide (i < (↑(List.length raw) : Int)) then
   bif decide (i < 30) then
    bif ins raw i then
     bif smB a then
      bif Prod.snd (Prod.snd (takeF a (pickF (Prod.fst (rd (zel (Ty.st (Ty.cons I I))) raw i)) 64) s)) != 0 then
       some ((DV.dat Ty.bool false, []))
      else
      bif Prod.fst (Prod.fst (Prod.snd (takeF a (pickF (Prod.fst (rd (zel (Ty.st (Ty.cons I I))) raw i)) 64) s))) != s then
       some ((DV.dat Ty.bool false, []))
      else
      bif Prod.fst (Prod.snd (Prod.fst (Prod.snd (takeF a (pickF (Prod.fst (rd (zel (Ty.st (Ty.cons I I))) raw i)) 64) s)))) != wr (i + 1) then
       some ((DV.dat Ty.bool false, []))
      else
      bif smB (Prod.fst (takeF a (pickF (Prod.fst (rd (zel (Ty.st (Ty.cons I I))) raw i)) 64) s)) then
       bif chkF (Prod.fst (takeF a (pickF (Prod.fst (rd (zel (Ty.st (Ty.cons I I))) raw i)) 64) s)) (pickF (Prod.fst (rd (zel (Ty.st (Ty.cons I I))) raw i)) 64) (Prod.fst (Prod.snd (takeF a (pickF (Prod.fst (rd (zel (Ty.st (Ty.cons I I))) raw i)) 64) s))) != 0 then
        some ((DV.dat Ty.bool false, []))
       else
       bif smB (Prod.fst (takeF a (pickF (Prod.fst (rd (zel (Ty.st (Ty.cons I I))) raw i)) 64) s)) then
        bif chkF (Prod.fst (takeF a (pickF (Prod.fst (rd (zel (Ty.st (Ty.cons I I))) raw i)) 64) s)) (Int.tmod (wr (pickF (Prod.fst (rd (zel (Ty.st (Ty.cons I I))) raw i)) 64 + 1)) 64) (Prod.fst (Prod.snd (takeF a (pickF (Prod.fst (rd (zel (Ty.st (Ty.cons I I))) raw i)) 64) s))) != 41 then
         some ((DV.dat Ty.bool false, []))
        else
        bif ins raw i then
         bif decide (pickF (Prod.snd (rd (zel (Ty.st (Ty.cons I I))) raw i)) 3 > 0) then
          bif smB (Prod.fst (takeF a (pickF (Prod.fst (rd (zel (Ty.st (Ty.cons I I))) raw i)) 64) s)) then
           bif smB (Prod.fst (pubF (Prod.fst (takeF a (pickF (Prod.fst (rd (zel (Ty.st (Ty.cons I I))) raw i)) 64) s)) (pickF (Prod.fst (rd (zel (Ty.st (Ty.cons I I))) raw i)) 64) (Prod.fst (Prod.snd (takeF a (pickF (Prod.fst (rd (zel (Ty.st (Ty.cons I I))) raw i)) 64) s))))) then
            bif Prod.snd (pubF (Prod.fst (takeF a (pickF (Prod.fst (rd (zel (Ty.st (Ty.cons I I))) raw i)) 64) s)) (pickF (Prod.fst (rd (zel (Ty.st (Ty.cons I I))) raw i)) 64) (Prod.fst (Prod.snd (takeF a (pickF (Prod.fst (rd (zel (Ty.st (Ty.cons I I))) raw i)) 64) s)))) != 0 then
             some ((DV.dat Ty.bool false, []))
            else
            bif Prod.snd (retF (Prod.fst (pubF (Prod.fst (takeF a (pickF (Prod.fst (rd (zel (Ty.st (Ty.cons I I))) raw i)) 64) s)) (pickF (Prod.fst (rd (zel (Ty.st (Ty.cons I I))) raw i)) 64) (Prod.fst (Prod.snd (takeF a (pickF (Prod.fst (rd (zel (Ty.st (Ty.cons I I))) raw i)) 64) s))))) (Prod.fst (Prod.snd (takeF a (pickF (Prod.fst (rd (zel (Ty.st (Ty.cons I I))) raw i)) 64) s)))) != 0 then
             some ((DV.dat Ty.bool false, []))
            else
            bif smB (Prod.fst (pubF (Prod.fst (takeF a (pickF (Prod.fst (rd (zel (Ty.st (Ty.cons I I))) raw i)) 64) s)) (pickF (Prod.fst (rd (zel (Ty.st (Ty.cons I I))) raw i)) 64) (Prod.fst (Prod.snd (takeF a (pickF (Prod.fst (rd (zel (Ty.st (Ty.cons I I))) raw i)) 64) s))))) then
             bif chkF (Prod.fst (pubF (Prod.fst (takeF a (pickF (Prod.fst (rd (zel (Ty.st (Ty.cons I I))) raw i)) 64) s)) (pickF (Prod.fst (rd (zel (Ty.st (Ty.cons I I))) raw i)) 64) (Prod.fst (Prod.snd (takeF a (pickF (Prod.fst (rd (zel (Ty.st (Ty.cons I I))) raw i)) 64) s))))) (Int.tmod (wr (pickF (Prod.fst (rd (zel (Ty.st (Ty.cons I I))) raw i)) 64 + 1)) 64) (Prod.fst (Prod.snd (takeF a (pickF (Prod.fst (rd (zel (Ty.st (Ty.cons I I))) raw i)) 64) s))) != 0 then
              some ((DV.dat Ty.bool false, []))
             else
             bif smB (Prod.fst (retF (Prod.fst (pubF (Prod.fst (takeF a (pickF (Prod.fst (rd (zel (Ty.st (Ty.cons I I))) raw i)) 64) s)) (pickF (Prod.fst (rd (zel (Ty.st (Ty.cons I I))) raw i)) 64) (Prod.fst (Prod.snd (takeF a (pickF (Prod.fst (rd (zel (Ty.st (Ty.cons I I))) raw i)) 64) s))))) (Prod.fst (Prod.snd (takeF a (pickF (Prod.fst (rd (zel (Ty.st (Ty.cons I I))) raw i)) 64) s))))) then
              bif chkF (Prod.fst (retF (Prod.fst (pubF (Prod.fst (takeF a (pickF (Prod.fst (rd (zel (Ty.st (Ty.cons I I))) raw i)) 64) s)) (pickF (Prod.fst (rd (zel (Ty.st (Ty.cons I I))) raw i)) 64) (Prod.fst (Prod.snd (takeF a (pickF (Prod.fst (rd (zel (Ty.st (Ty.cons I I))) raw i)) 64) s))))) (Prod.fst (Prod.snd (takeF a (pickF (Prod.fst (rd (zel (Ty.st (Ty.cons I I))) raw i)) 64) s))))) (pickF (Prod.fst (rd (zel (Ty.st (Ty.cons I I))) raw i)) 64) (Prod.fst (Prod.snd (takeF a (pickF (Prod.fst (rd (zel (Ty.st (Ty.cons I I))) raw i)) 64) s))) != 0 then
               some ((DV.dat Ty.bool false, []))
              else
              bif smB (Prod.fst (retF (Prod.fst (pubF (Prod.fst (takeF a (pickF (Prod.fst (rd (zel (Ty.st (Ty.cons I I))) raw i)) 64) s)) (pickF (Prod.fst (rd (zel (Ty.st (Ty.cons I I))) raw i)) 64) (Prod.fst (Prod.snd (takeF a (pickF (Prod.fst (rd (zel (Ty.st (Ty.cons I I))) raw i)) 64) s))))) (Prod.fst (Prod.snd (takeF a (pickF (Prod.fst (rd (zel (Ty.st (Ty.cons I I))) raw i)) 64) s))))) then
               bif Prod.snd (backF (Prod.fst (retF (Prod.fst (pubF (Prod.fst (takeF a (pickF (Prod.fst (rd (zel (Ty.st (Ty.cons I I))) raw i)) 64) s)) (pickF (Prod.fst (rd (zel (Ty.st (Ty.cons I I))) raw i)) 64) (Prod.fst (Prod.snd (takeF a (pickF (Prod.fst (rd (zel (Ty.st (Ty.cons I I))) raw i)) 64) s))))) (Prod.fst (Prod.snd (takeF a (pickF (Prod.fst (rd (zel (Ty.st (Ty.cons I I))) raw i)) 64) s))))) (Prod.fst (Prod.snd (takeF a (pickF (Prod.fst (rd (zel (Ty.st (Ty.cons I I))) raw i)) 64) s)))) != 0 then
                some ((DV.dat Ty.bool false, []))
               else
               bif (↑(List.length (Prod.fst (Prod.fst (backF (Prod.fst (retF (Prod.fst (pubF (Prod.fst (takeF a (pickF (Prod.fst (rd (zel (Ty.st (Ty.cons I I))) raw i)) 64) s)) (pickF (Prod.fst (rd (zel (Ty.st (Ty.cons I I))) raw i)) 64) (Prod.fst (Prod.snd (takeF a (pickF (Prod.fst (rd (zel (Ty.st (Ty.cons I I))) raw i)) 64) s))))) (Prod.fst (Prod.snd (takeF a (pickF (Prod.fst (rd (zel (Ty.st (Ty.cons I I))) raw i)) 64) s))))) (Prod.fst (Prod.snd (takeF a (pickF (Prod.fst (rd (zel (Ty.st (Ty.cons I I))) raw i)) 64) s))))))) : Int) != n then
                some ((DV.dat Ty.bool false, []))
               else
               bif ins (Prod.fst (Prod.fst (backF (Prod.fst (retF (Prod.fst (pubF (Prod.fst (takeF a (pickF (Prod.fst (rd (zel (Ty.st (Ty.cons I I))) raw i)) 64) s)) (pickF (Prod.fst (rd (zel (Ty.st (Ty.cons I I))) raw i)) 64) (Prod.fst (Prod.snd (takeF a (pickF (Prod.fst (rd (zel (Ty.st (Ty.cons I I))) raw i)) 64) s))))) (Prod.fst (Prod.snd (takeF a (pickF (Prod.fst (rd (zel (Ty.st (Ty.cons I I))) raw i)) 64) s))))) (Prod.fst (Prod.snd (takeF a (pickF (Prod.fst (rd (zel (Ty.st (Ty.cons I I))) raw i)) 64) s)))))) s then
                bif rd (zel I) (Prod.fst (Prod.fst (backF (Prod.fst (retF (Prod.fst (pubF (Prod.fst (takeF a (pickF (Prod.fst (rd (zel (Ty.st (Ty.cons I I))) raw i)) 64) s)) (pickF (Prod.fst (rd (zel (Ty.st (Ty.cons I I))) raw i)) 64) (Prod.fst (Prod.snd (takeF a (pickF (Prod.fst (rd (zel (Ty.st (Ty.cons I I))) raw i)) 64) s))))) (Prod.fst (Prod.snd (takeF a (pickF (Prod.fst (rd (zel (Ty.st (Ty.cons I I))) raw i)) 64) s))))) (Prod.fst (Prod.snd (takeF a (pickF (Prod.fst (rd (zel (Ty.st (Ty.cons I I))) raw i)) 64) s)))))) s != 0 then
                 some ((DV.dat Ty.bool false, []))
                else
                bif (↑(List.length (Prod.fst (Prod.snd (Prod.fst (backF (Prod.fst (retF (Prod.fst (pubF (Prod.fst (takeF a (pickF (Prod.fst (rd (zel (Ty.st (Ty.cons I I))) raw i)) 64) s)) (pickF (Prod.fst (rd (zel (Ty.st (Ty.cons I I))) raw i)) 64) (Prod.fst (Prod.snd (takeF a (pickF (Prod.fst (rd (zel (Ty.st (Ty.cons I I))) raw i)) 64) s))))) (Prod.fst (Prod.snd (takeF a (pickF (Prod.fst (rd (zel (Ty.st (Ty.cons I I))) raw i)) 64) s))))) (Prod.fst (Prod.snd (takeF a (pickF (Prod.fst (rd (zel (Ty.st (Ty.cons I I))) raw i)) 64) s)))))))) : Int) != n then
                 some ((DV.dat Ty.bool false, []))
                else
                bif ins (Prod.fst (Prod.snd (Prod.fst (backF (Prod.fst (retF (Prod.fst (pubF (Prod.fst (takeF a (pickF (Prod.fst (rd (zel (Ty.st (Ty.cons I I))) raw i)) 64) s)) (pickF (Prod.fst (rd (zel (Ty.st (Ty.cons I I))) raw i)) 64) (Prod.fst (Prod.snd (takeF a (pickF (Prod.fst (rd (zel (Ty.st (Ty.cons I I))) raw i)) 64) s))))) (Prod.fst (Prod.snd (takeF a (pickF (Prod.fst (rd (zel (Ty.st (Ty.cons I I))) raw i)) 64) s))))) (Prod.fst (Prod.snd (takeF a (pickF (Prod.fst (rd (zel (Ty.st (Ty.cons I I))) raw i)) 64) s))))))) s then
                 bif rd (zel I) (Prod.fst (Prod.snd (Prod.fst (backF (Prod.fst (retF (Prod.fst (pubF (Prod.fst (takeF a (pickF (Prod.fst (rd (zel (Ty.st (Ty.cons I I))) raw i)) 64) s)) (pickF (Prod.fst (rd (zel (Ty.st (Ty.cons I I))) raw i)) 64) (Prod.fst (Prod.snd (takeF a (pickF (Prod.fst (rd (zel (Ty.st (Ty.cons I I))) raw i)) 64) s))))) (Prod.fst (Prod.snd (takeF a (pickF (Prod.fst (rd (zel (Ty.st (Ty.cons I I))) raw i)) 64) s))))) (Prod.fst (Prod.snd (takeF a (pickF (Prod.fst (rd (zel (Ty.st (Ty.cons I I))) raw i)) 64) s))))))) s != wr (i + 1) then
                  some ((DV.dat Ty.bool false, []))
                 else
                  K (headS Try.prog 5 6 [(11, DV.dat (Ty.int .i64) (wr (i + 1))), (9, DV.ptr 0 0), (10, DV.dat (Ty.int .i64) s), (8, DV.dat (Ty.int .i64) n), (2, DV.dat (Ty.sl (Ty.st (Ty.cons (Ty.int .i64) (Ty.int .i64)))) raw), (7, DV.dat Ty.bool ok)]) [] [Blk.cells 26 [DV.dat (Ty.sl (Ty.int .i64)) (Prod.fst (Prod.fst (backF (Prod.fst (retF (Prod.fst (pubF (Prod.fst (takeF a (pickF (Prod.fst (rd (zel (Ty.st (Ty.cons I I))) raw i)) 64) s)) (pickF (Prod.fst (rd (zel (Ty.st (Ty.cons I I))) raw i)) 64) (Prod.fst (Prod.snd (takeF a (pickF (Prod.fst (rd (zel (Ty.st (Ty.cons I I))) raw i)) 64) s))))) (Prod.fst (Prod.snd (takeF a (pickF (Prod.fst (rd (zel (Ty.st (Ty.cons I I))) raw i)) 64) s))))) (Prod.fst (Prod.snd (takeF a (pickF (Prod.fst (rd (zel (Ty.st (Ty.cons I I))) raw i)) 64) s)))))), DV.dat (Ty.sl (Ty.int .i64)) (Prod.fst (Prod.snd (Prod.fst (backF (Prod.fst (retF (Prod.fst (pubF (Prod.fst (takeF a (pickF (Prod.fst (rd (zel (Ty.st (Ty.cons I I))) raw i)) 64) s)) (pickF (Prod.fst (rd (zel (Ty.st (Ty.cons I I))) raw i)) 64) (Prod.fst (Prod.snd (takeF a (pickF (Prod.fst (rd (zel (Ty.st (Ty.cons I I))) raw i)) 64) s))))) (Prod.fst (Prod.snd (takeF a (pickF (Prod.fst (rd (zel (Ty.st (Ty.cons I I))) raw i)) 64) s))))) (Prod.fst (Prod.snd (takeF a (pickF (Prod.fst (rd (zel (Ty.st (Ty.cons I I))) raw i)) 64) s))))))), DV.dat (Ty.sl (Ty.int .i64)) (Prod.snd (Prod.snd (Prod.fst (backF (Prod.fst (retF (Prod.fst (pubF (Prod.fst (takeF a (pickF (Prod.fst (rd (zel (Ty.st (Ty.cons I I))) raw i)) 64) s)) (pickF (Prod.fst (rd (zel (Ty.st (Ty.cons I I))) raw i)) 64) (Prod.fst (Prod.snd (takeF a (pickF (Prod.fst (rd (zel (Ty.st (Ty.cons I I))) raw i)) 64) s))))) (Prod.fst (Prod.snd (takeF a (pickF (Prod.fst (rd (zel (Ty.st (Ty.cons I I))) raw i)) 64) s))))) (Prod.fst (Prod.snd (takeF a (pickF (Prod.fst (rd (zel (Ty.st (Ty.cons I I))) raw i)) 64) s)))))))]]
                else
                 none
               else
                none
              else
               none
             else
              none
            else
             none
           else
            none
          else
           none
         else
         bif smB (Prod.fst (takeF a (pickF (Prod.fst (rd (zel (Ty.st (Ty.cons I I))) raw i)) 64) s)) then
          bif Prod.snd (backF (Prod.fst (takeF a (pickF (Prod.fst (rd (zel (Ty.st (Ty.cons I I))) raw i)) 64) s)) (Prod.fst (Prod.snd (takeF a (pickF (Prod.fst (rd (zel (Ty.st (Ty.cons I I))) raw i)) 64) s)))) != 0 then
           some ((DV.dat Ty.bool false, []))
          else
          bif (↑(List.length (Prod.fst (Prod.fst (backF (Prod.fst (takeF a (pickF (Prod.fst (rd (zel (Ty.st (Ty.cons I I))) raw i)) 64) s)) (Prod.fst (Prod.snd (takeF a (pickF (Prod.fst (rd (zel (Ty.st (Ty.cons I I))) raw i)) 64) s))))))) : Int) != n then
           some ((DV.dat Ty.bool false, []))
          else
          bif ins (Prod.fst (Prod.fst (backF (Prod.fst (takeF a (pickF (Prod.fst (rd (zel (Ty.st (Ty.cons I I))) raw i)) 64) s)) (Prod.fst (Prod.snd (takeF a (pickF (Prod.fst (rd (zel (Ty.st (Ty.cons I I))) raw i)) 64) s)))))) s then
           bif rd (zel I) (Prod.fst (Prod.fst (backF (Prod.fst (takeF a (pickF (Prod.fst (rd (zel (Ty.st (Ty.cons I I))) raw i)) 64) s)) (Prod.fst (Prod.snd (takeF a (pickF (Prod.fst (rd (zel (Ty.st (Ty.cons I I))) raw i)) 64) s)))))) s != 0 then
            some ((DV.dat Ty.bool false, []))
           else
           bif (↑(List.length (Prod.fst (Prod.snd (Prod.fst (backF (Prod.fst (takeF a (pickF (Prod.fst (rd (zel (Ty.st (Ty.cons I I))) raw i)) 64) s)) (Prod.fst (Prod.snd (takeF a (pickF (Prod.fst (rd (zel (Ty.st (Ty.cons I I))) raw i)) 64) s)))))))) : Int) != n then
            some ((DV.dat Ty.bool false, []))
           else
           bif ins (Prod.fst (Prod.snd (Prod.fst (backF (Prod.fst (takeF a (pickF (Prod.fst (rd (zel (Ty.st (Ty.cons I I))) raw i)) 64) s)) (Prod.fst (Prod.snd (takeF a (pickF (Prod.fst (rd (zel (Ty.st (Ty.cons I I))) raw i)) 64) s))))))) s then
            bif rd (zel I) (Prod.fst (Prod.snd (Prod.fst (backF (Prod.fst (takeF a (pickF (Prod.fst (rd (zel (Ty.st (Ty.cons I I))) raw i)) 64) s)) (Prod.fst (Prod.snd (takeF a (pickF (Prod.fst (rd (zel (Ty.st (Ty.cons I I))) raw i)) 64) s))))))) s != wr (i + 1) then
             some ((DV.dat Ty.bool false, []))
            else
             K (headS Try.prog 5 6 [(11, DV.dat (Ty.int .i64) (wr (i + 1))), (9, DV.ptr 0 0), (10, DV.dat (Ty.int .i64) s), (8, DV.dat (Ty.int .i64) n), (2, DV.dat (Ty.sl (Ty.st (Ty.cons (Ty.int .i64) (Ty.int .i64)))) raw), (7, DV.dat Ty.bool ok)]) [] [Blk.cells 26 [DV.dat (Ty.sl (Ty.int .i64)) (Prod.fst (Prod.fst (backF (Prod.fst (takeF a (pickF (Prod.fst (rd (zel (Ty.st (Ty.cons I I))) raw i)) 64) s)) (Prod.fst (Prod.snd (takeF a (pickF (Prod.fst (rd (zel (Ty.st (Ty.cons I I))) raw i)) 64) s)))))), DV.dat (Ty.sl (Ty.int .i64)) (Prod.fst (Prod.snd (Prod.fst (backF (Prod.fst (takeF a (pickF (Prod.fst (rd (zel (Ty.st (Ty.cons I I))) raw i)) 64) s)) (Prod.fst (Prod.snd (takeF a (pickF (Prod.fst (rd (zel (Ty.st (Ty.cons I I))) raw i)) 64) s))))))), DV.dat (Ty.sl (Ty.int .i64)) (Prod.snd (Prod.snd (Prod.fst (backF (Prod.fst (takeF a (pickF (Prod.fst (rd (zel (Ty.st (Ty.cons I I))) raw i)) 64) s)) (Prod.fst (Prod.snd (takeF a (pickF (Prod.fst (rd (zel (Ty.st (Ty.cons I I))) raw i)) 64) s)))))))]]
           else
            none
          else
           none
         else
          none
        else
         none
       else
        none
      else
       none
     else
      none
    else
     none
   else
    some ((DV.dat Ty.bool ok, []))
  else
   some ((DV.dat Ty.bool ok, []))
theorem turnsL_t (K : KT) (i n s : Int) (ok : Bool) (a : A) (raw : List (Int × Int)) : bigK C5 cuts5 (finF Try.prog [some .bool]) 1000 K 40 (headS Try.prog 5 6 (env5 i n s ok raw)) [] (heap5 a) =
    turnsL_e K i n s ok a raw := by kernel_rfl

end Go.AM.L09
