/- DERIVED. NO CLAIM IN IT. What the statement ArenaOnce does, by cases; printed by a program. -/
import Derived.Test.YteopbgebpgchfaaL09E
set_option linter.unusedVariables false
namespace Go.AM.L09
open Go.Proofs
def cuts4 : List Cut := [⟨4, 15, [(25, none), (8, none), (18, none), (16, none), (14, none), (11, none), (9, none), (23, none), (17, none), (21, none), (19, none), (24, none), (15, none), (13, none), (7, none)]⟩]
def cellA (a : A) : Blk := .cells 26 [.dat L a.1, .dat L a.2.1, .dat L a.2.2]
def heap4 (a b r p t : A) : Heap := [cellA a, cellA b, cellA r, cellA p, cellA t]
def env4 (n s k g j i st f e : Int) (ok : Bool) : Env := [(25, .dat I n), (8, .ptr 0 0), (18, .ptr 1 0), (16, .ptr 2 0), (14, .ptr 3 0), (11, .ptr 4 0), (9, .dat I s), (23, .dat I k), (17, .dat I g), (21, .dat I j), (19, .dat I i), (24, .dat I st), (15, .dat I f), (13, .dat I e), (7, .dat .bool ok)]
noncomputable def once0_e (K : KT) (n s : Int) (raw : List T3) : Option (DV × List Blk) :=
  bif i6 n && rawB raw then
   bif !(↑(List.length (Prod.fst (arenaF n raw))) : Int) == 0 then
    bif ins (Prod.fst (Prod.snd (arenaF n raw))) (pickF s (↑(List.length (Prod.fst (arenaF n raw))) : Int)) then
     bif smB (arenaF n raw) then
      bif ins (Prod.snd (Prod.snd (arenaF n raw))) (pickF s (↑(List.length (Prod.fst (arenaF n raw))) : Int)) then
       bif smB (arenaF n raw) then
        bif smB (arenaF n raw) then
         bif smB (arenaF n raw) then
          bif smB (Prod.fst (backF (arenaF n raw) (pickF s (↑(List.length (Prod.fst (arenaF n raw))) : Int), rd (zel I) (Prod.fst (Prod.snd (arenaF n raw))) (pickF s (↑(List.length (Prod.fst (arenaF n raw))) : Int)), false, false))) then
           bif smB (Prod.fst (retF (arenaF n raw) (pickF s (↑(List.length (Prod.fst (arenaF n raw))) : Int), rd (zel I) (Prod.fst (Prod.snd (arenaF n raw))) (pickF s (↑(List.length (Prod.fst (arenaF n raw))) : Int)), false, false))) then
            bif ins (Prod.fst (arenaF n raw)) (pickF s (↑(List.length (Prod.fst (arenaF n raw))) : Int)) then
             bif (↑(List.length (Prod.fst (Prod.fst (takeF (arenaF n raw) 2 (pickF s (↑(List.length (Prod.fst (arenaF n raw))) : Int)))))) : Int) != (↑(List.length (Prod.fst (arenaF n raw))) : Int) then
              some ((DV.dat Ty.bool false, []))
             else
             bif (↑(List.length (Prod.fst (Prod.fst (pubF (arenaF n raw) (bif decide (0 > rd (zel I) (Prod.snd (Prod.snd (arenaF n raw))) (pickF s (↑(List.length (Prod.fst (arenaF n raw))) : Int))) then 0 else rd (zel I) (Prod.snd (Prod.snd (arenaF n raw))) (pickF s (↑(List.length (Prod.fst (arenaF n raw))) : Int))) (pickF s (↑(List.length (Prod.fst (arenaF n raw))) : Int), rd (zel I) (Prod.fst (Prod.snd (arenaF n raw))) (pickF s (↑(List.length (Prod.fst (arenaF n raw))) : Int)), false, false))))) : Int) != (↑(List.length (Prod.fst (arenaF n raw))) : Int) then
              some ((DV.dat Ty.bool false, []))
             else
             bif (↑(List.length (Prod.fst (Prod.fst (retF (arenaF n raw) (pickF s (↑(List.length (Prod.fst (arenaF n raw))) : Int), rd (zel I) (Prod.fst (Prod.snd (arenaF n raw))) (pickF s (↑(List.length (Prod.fst (arenaF n raw))) : Int)), false, false))))) : Int) != (↑(List.length (Prod.fst (arenaF n raw))) : Int) then
              some ((DV.dat Ty.bool false, []))
             else
             bif (↑(List.length (Prod.fst (Prod.fst (backF (arenaF n raw) (pickF s (↑(List.length (Prod.fst (arenaF n raw))) : Int), rd (zel I) (Prod.fst (Prod.snd (arenaF n raw))) (pickF s (↑(List.length (Prod.fst (arenaF n raw))) : Int)), false, false))))) : Int) != (↑(List.length (Prod.fst (arenaF n raw))) : Int) then
              some ((DV.dat Ty.bool false, []))
             else
              K (headS Try.prog 4 15 [(25, DV.dat (Ty.int .i64) 0), (8, DV.ptr 0 0), (18, DV.ptr 1 0), (16, DV.ptr 2 0), (14, DV.ptr 3 0), (11, DV.ptr 4 0), (9, DV.dat (Ty.int .i64) (pickF s (↑(List.length (Prod.fst (arenaF n raw))) : Int))), (23, DV.dat (Ty.int .i64) (Prod.snd (retF (Prod.fst (retF (arenaF n raw) (pickF s (↑(List.length (Prod.fst (arenaF n raw))) : Int), rd (zel I) (Prod.fst (Prod.snd (arenaF n raw))) (pickF s (↑(List.length (Prod.fst (arenaF n raw))) : Int)), false, false))) (pickF s (↑(List.length (Prod.fst (arenaF n raw))) : Int), rd (zel I) (Prod.fst (Prod.snd (arenaF n raw))) (pickF s (↑(List.length (Prod.fst (arenaF n raw))) : Int)), false, false)))), (17, DV.dat (Ty.int .i64) (Prod.snd (retF (arenaF n raw) (pickF s (↑(List.length (Prod.fst (arenaF n raw))) : Int), rd (zel I) (Prod.fst (Prod.snd (arenaF n raw))) (pickF s (↑(List.length (Prod.fst (arenaF n raw))) : Int)), false, false)))), (21, DV.dat (Ty.int .i64) (Prod.snd (backF (Prod.fst (backF (arenaF n raw) (pickF s (↑(List.length (Prod.fst (arenaF n raw))) : Int), rd (zel I) (Prod.fst (Prod.snd (arenaF n raw))) (pickF s (↑(List.length (Prod.fst (arenaF n raw))) : Int)), false, false))) (pickF s (↑(List.length (Prod.fst (arenaF n raw))) : Int), rd (zel I) (Prod.fst (Prod.snd (arenaF n raw))) (pickF s (↑(List.length (Prod.fst (arenaF n raw))) : Int)), false, false)))), (19, DV.dat (Ty.int .i64) (Prod.snd (backF (arenaF n raw) (pickF s (↑(List.length (Prod.fst (arenaF n raw))) : Int), rd (zel I) (Prod.fst (Prod.snd (arenaF n raw))) (pickF s (↑(List.length (Prod.fst (arenaF n raw))) : Int)), false, false)))), (24, DV.dat (Ty.int .i64) (rd (zel I) (Prod.fst (arenaF n raw)) (pickF s (↑(List.length (Prod.fst (arenaF n raw))) : Int)))), (15, DV.dat (Ty.int .i64) (Prod.snd (pubF (arenaF n raw) (bif decide (0 > rd (zel I) (Prod.snd (Prod.snd (arenaF n raw))) (pickF s (↑(List.length (Prod.fst (arenaF n raw))) : Int))) then 0 else rd (zel I) (Prod.snd (Prod.snd (arenaF n raw))) (pickF s (↑(List.length (Prod.fst (arenaF n raw))) : Int))) (pickF s (↑(List.length (Prod.fst (arenaF n raw))) : Int), rd (zel I) (Prod.fst (Prod.snd (arenaF n raw))) (pickF s (↑(List.length (Prod.fst (arenaF n raw))) : Int)), false, false)))), (13, DV.dat (Ty.int .i64) (Prod.snd (Prod.snd (takeF (arenaF n raw) 2 (pickF s (↑(List.length (Prod.fst (arenaF n raw))) : Int)))))), (7, DV.dat Ty.bool true)]) [] [Blk.cells 26 [DV.dat (Ty.sl (Ty.int .i64)) (Prod.fst (arenaF n raw)), DV.dat (Ty.sl (Ty.int .i64)) (Prod.fst (Prod.snd (arenaF n raw))), DV.dat (Ty.sl (Ty.int .i64)) (Prod.snd (Prod.snd (arenaF n raw)))], Blk.cells 26 [DV.dat (Ty.sl (Ty.int .i64)) (Prod.fst (Prod.fst (backF (arenaF n raw) (pickF s (↑(List.length (Prod.fst (arenaF n raw))) : Int), rd (zel I) (Prod.fst (Prod.snd (arenaF n raw))) (pickF s (↑(List.length (Prod.fst (arenaF n raw))) : Int)), false, false)))), DV.dat (Ty.sl (Ty.int .i64)) (Prod.fst (Prod.snd (Prod.fst (backF (arenaF n raw) (pickF s (↑(List.length (Prod.fst (arenaF n raw))) : Int), rd (zel I) (Prod.fst (Prod.snd (arenaF n raw))) (pickF s (↑(List.length (Prod.fst (arenaF n raw))) : Int)), false, false))))), DV.dat (Ty.sl (Ty.int .i64)) (Prod.snd (Prod.snd (Prod.fst (backF (arenaF n raw) (pickF s (↑(List.length (Prod.fst (arenaF n raw))) : Int), rd (zel I) (Prod.fst (Prod.snd (arenaF n raw))) (pickF s (↑(List.length (Prod.fst (arenaF n raw))) : Int)), false, false)))))], Blk.cells 26 [DV.dat (Ty.sl (Ty.int .i64)) (Prod.fst (Prod.fst (retF (arenaF n raw) (pickF s (↑(List.length (Prod.fst (arenaF n raw))) : Int), rd (zel I) (Prod.fst (Prod.snd (arenaF n raw))) (pickF s (↑(List.length (Prod.fst (arenaF n raw))) : Int)), false, false)))), DV.dat (Ty.sl (Ty.int .i64)) (Prod.fst (Prod.snd (Prod.fst (retF (arenaF n raw) (pickF s (↑(List.length (Prod.fst (arenaF n raw))) : Int), rd (zel I) (Prod.fst (Prod.snd (arenaF n raw))) (pickF s (↑(List.length (Prod.fst (arenaF n raw))) : Int)), false, false))))), DV.dat (Ty.sl (Ty.int .i64)) (Prod.snd (Prod.snd (Prod.fst (retF (arenaF n raw) (pickF s (↑(List.length (Prod.fst (arenaF n raw))) : Int), rd (zel I) (Prod.fst (Prod.snd (arenaF n raw))) (pickF s (↑(List.length (Prod.fst (arenaF n raw))) : Int)), false, false)))))], Blk.cells 26 [DV.dat (Ty.sl (Ty.int .i64)) (Prod.fst (Prod.fst (pubF (arenaF n raw) (bif decide (0 > rd (zel I) (Prod.snd (Prod.snd (arenaF n raw))) (pickF s (↑(List.length (Prod.fst (arenaF n raw))) : Int))) then 0 else rd (zel I) (Prod.snd (Prod.snd (arenaF n raw))) (pickF s (↑(List.length (Prod.fst (arenaF n raw))) : Int))) (pickF s (↑(List.length (Prod.fst (arenaF n raw))) : Int), rd (zel I) (Prod.fst (Prod.snd (arenaF n raw))) (pickF s (↑(List.length (Prod.fst (arenaF n raw))) : Int)), false, false)))), DV.dat (Ty.sl (Ty.int .i64)) (Prod.fst (Prod.snd (Prod.fst (pubF (arenaF n raw) (bif decide (0 > rd (zel I) (Prod.snd (Prod.snd (arenaF n raw))) (pickF s (↑(List.length (Prod.fst (arenaF n raw))) : Int))) then 0 else rd (zel I) (Prod.snd (Prod.snd (arenaF n raw))) (pickF s (↑(List.length (Prod.fst (arenaF n raw))) : Int))) (pickF s (↑(List.length (Prod.fst (arenaF n raw))) : Int), rd (zel I) (Prod.fst (Prod.snd (arenaF n raw))) (pickF s (↑(List.length (Prod.fst (arenaF n raw))) : Int)), false, false))))), DV.dat (Ty.sl (Ty.int .i64)) (Prod.snd (Prod.snd (Prod.fst (pubF (arenaF n raw) (bif decide (0 > rd (zel I) (Prod.snd (Prod.snd (arenaF n raw))) (pickF s (↑(List.length (Prod.fst (arenaF n raw))) : Int))) then 0 else rd (zel I) (Prod.snd (Prod.snd (arenaF n raw))) (pickF s (↑(List.length (Prod.fst (arenaF n raw))) : Int))) (pickF s (↑(List.length (Prod.fst (arenaF n raw))) : Int), rd (zel I) (Prod.fst (Prod.snd (arenaF n raw))) (pickF s (↑(List.length (Prod.fst (arenaF n raw))) : Int)), false, false)))))], Blk.cells 26 [DV.dat (Ty.sl (Ty.int .i64)) (Prod.fst (Prod.fst (takeF (arenaF n raw) 2 (pickF s (↑(List.length (Prod.fst (arenaF n raw))) : Int))))), DV.dat (Ty.sl (Ty.int .i64)) (Prod.fst (Prod.snd (Prod.fst (takeF (arenaF n raw) 2 (pickF s (↑(List.length (Prod.fst (arenaF n raw))) : Int)))))), DV.dat (Ty.sl (Ty.int .i64)) (Prod.snd (Prod.snd (Prod.fst (takeF (arenaF n raw) 2 (pickF s (↑(List.length (Prod.fst (arenaF n raw))) : Int))))))]]
            else
             none
           else
            none
          else
           none
         else
          none
        else
         none
       else
        none
      else
       none
     else
      none
    else
     none
   else
    none
  else
   none
theorem once0_t (K : KT) (n s : Int) (raw : List T3) : bigK C5 cuts4 (finF Try.prog [some .bool]) 1000 K 40 (startA Try.prog 4 [.dat I n, .dat RT raw, .dat I s]) [] [] =
    once0_e K n s raw := by kernel_rfl

noncomputable def onceL_e (K : KT) (n s k g j i st f e : Int) (ok : Bool) (a b r p t : A) : Option (DV × List Blk) :=
  bif decide (n < (↑(List.length (Prod.fst a)) : Int)) then
   bif n != s then
    bif ins (Prod.fst t) n then
     bif ins (Prod.fst a) n then
      bif rd (zel I) (Prod.fst t) n != rd (zel I) (Prod.fst a) n then
       some ((DV.dat Ty.bool false, []))
      else
      bif ins (Prod.fst p) n then
       bif ins (Prod.fst a) n then
        bif rd (zel I) (Prod.fst p) n != rd (zel I) (Prod.fst a) n then
         some ((DV.dat Ty.bool false, []))
        else
        bif ins (Prod.fst r) n then
         bif ins (Prod.fst a) n then
          bif rd (zel I) (Prod.fst r) n != rd (zel I) (Prod.fst a) n then
           some ((DV.dat Ty.bool false, []))
          else
          bif ins (Prod.fst b) n then
           bif ins (Prod.fst a) n then
            bif rd (zel I) (Prod.fst b) n != rd (zel I) (Prod.fst a) n then
             some ((DV.dat Ty.bool false, []))
            else
             K (headS Try.prog 4 15 [(25, DV.dat (Ty.int .i64) (wr (n + 1))), (8, DV.ptr 0 0), (18, DV.ptr 1 0), (16, DV.ptr 2 0), (14, DV.ptr 3 0), (11, DV.ptr 4 0), (9, DV.dat (Ty.int .i64) s), (23, DV.dat (Ty.int .i64) k), (17, DV.dat (Ty.int .i64) g), (21, DV.dat (Ty.int .i64) j), (19, DV.dat (Ty.int .i64) i), (24, DV.dat (Ty.int .i64) st), (15, DV.dat (Ty.int .i64) f), (13, DV.dat (Ty.int .i64) e), (7, DV.dat Ty.bool ok)]) [] [Blk.cells 26 [DV.dat (Ty.sl (Ty.int .i64)) (Prod.fst a), DV.dat (Ty.sl (Ty.int .i64)) (Prod.fst (Prod.snd a)), DV.dat (Ty.sl (Ty.int .i64)) (Prod.snd (Prod.snd a))], Blk.cells 26 [DV.dat (Ty.sl (Ty.int .i64)) (Prod.fst b), DV.dat (Ty.sl (Ty.int .i64)) (Prod.fst (Prod.snd b)), DV.dat (Ty.sl (Ty.int .i64)) (Prod.snd (Prod.snd b))], Blk.cells 26 [DV.dat (Ty.sl (Ty.int .i64)) (Prod.fst r), DV.dat (Ty.sl (Ty.int .i64)) (Prod.fst (Prod.snd r)), DV.dat (Ty.sl (Ty.int .i64)) (Prod.snd (Prod.snd r))], Blk.cells 26 [DV.dat (Ty.sl (Ty.int .i64)) (Prod.fst p), DV.dat (Ty.sl (Ty.int .i64)) (Prod.fst (Prod.snd p)), DV.dat (Ty.sl (Ty.int .i64)) (Prod.snd (Prod.snd p))], Blk.cells 26 [DV.dat (Ty.sl (Ty.int .i64)) (Prod.fst t), DV.dat (Ty.sl (Ty.int .i64)) (Prod.fst (Prod.snd t)), DV.dat (Ty.sl (Ty.int .i64)) (Prod.snd (Prod.snd t))]]
           else
            none
          else
           none
         else
          none
        else
         none
       else
        none
      else
       none
     else
      none
    else
     none
   else
    K (headS Try.prog 4 15 [(25, DV.dat (Ty.int .i64) (wr (n + 1))), (8, DV.ptr 0 0), (18, DV.ptr 1 0), (16, DV.ptr 2 0), (14, DV.ptr 3 0), (11, DV.ptr 4 0), (9, DV.dat (Ty.int .i64) s), (23, DV.dat (Ty.int .i64) k), (17, DV.dat (Ty.int .i64) g), (21, DV.dat (Ty.int .i64) j), (19, DV.dat (Ty.int .i64) i), (24, DV.dat (Ty.int .i64) st), (15, DV.dat (Ty.int .i64) f), (13, DV.dat (Ty.int .i64) e), (7, DV.dat Ty.bool ok)]) [] [Blk.cells 26 [DV.dat (Ty.sl (Ty.int .i64)) (Prod.fst a), DV.dat (Ty.sl (Ty.int .i64)) (Prod.fst (Prod.snd a)), DV.dat (Ty.sl (Ty.int .i64)) (Prod.snd (Prod.snd a))], Blk.cells 26 [DV.dat (Ty.sl (Ty.int .i64)) (Prod.fst b), DV.dat (Ty.sl (Ty.int .i64)) (Prod.fst (Prod.snd b)), DV.dat (Ty.sl (Ty.int .i64)) (Prod.snd (Prod.snd b))], Blk.cells 26 [DV.dat (Ty.sl (Ty.int .i64)) (Prod.fst r), DV.dat (Ty.sl (Ty.int .i64)) (Prod.fst (Prod.snd r)), DV.dat (Ty.sl (Ty.int .i64)) (Prod.snd (Prod.snd r))], Blk.cells 26 [DV.dat (Ty.sl (Ty.int .i64)) (Prod.fst p), DV.dat (Ty.sl (Ty.int .i64)) (Prod.fst (Prod.snd p)), DV.dat (Ty.sl (Ty.int .i64)) (Prod.snd (Prod.snd p))], Blk.cells 26 [DV.dat (Ty.sl (Ty.int .i64)) (Prod.fst t), DV.dat (Ty.sl (Ty.int .i64)) (Prod.fst (Prod.snd t)), DV.dat (Ty.sl (Ty.int .i64)) (Prod.snd (Prod.snd t))]]
  else
  bif ok then
   bif (e == 0) == (st == 0) then
    bif (f == 0) == (st == 1) then
     bif (g == 0) == (st == 2) then
      bif st == 1 then
       bif (i == 0) == true then
        bif i != 0 then
         bif g != 0 then
          some ((DV.dat Ty.bool true, []))
         else
          some ((DV.dat Ty.bool (k == 40), []))
        else
        bif j == 40 then
         bif g != 0 then
          some ((DV.dat Ty.bool true, []))
         else
          some ((DV.dat Ty.bool (k == 40), []))
        else
         some ((DV.dat Ty.bool false, []))
       else
        some ((DV.dat Ty.bool false, []))
      else
      bif (i == 0) == (st == 3) then
       bif i != 0 then
        bif g != 0 then
         some ((DV.dat Ty.bool true, []))
        else
         some ((DV.dat Ty.bool (k == 40), []))
       else
       bif j == 40 then
        bif g != 0 then
         some ((DV.dat Ty.bool true, []))
        else
         some ((DV.dat Ty.bool (k == 40), []))
       else
        some ((DV.dat Ty.bool false, []))
      else
       some ((DV.dat Ty.bool false, []))
     else
      some ((DV.dat Ty.bool false, []))
    else
     some ((DV.dat Ty.bool false, []))
   else
    some ((DV.dat Ty.bool false, []))
  else
   some ((DV.dat Ty.bool false, []))
theorem onceL_t (K : KT) (n s k g j i st f e : Int) (ok : Bool) (a b r p t : A) : bigK C5 cuts4 (finF Try.prog [some .bool]) 1000 K 40 (headS Try.prog 4 15 (env4 n s k g j i st f e ok)) [] (heap4 a b r p t) =
    onceL_e K n s k g j i st f e ok a b r p t := by kernel_rfl

end Go.AM.L09
