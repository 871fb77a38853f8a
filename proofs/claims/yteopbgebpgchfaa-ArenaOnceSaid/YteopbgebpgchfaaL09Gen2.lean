/- DERIVED. NO CLAIM IN IT. What the functions of this seat do, by cases; printed by a program. -/
import Derived.Test.YteopbgebpgchfaaL09A
set_option linter.unusedVariables false
namespace Go.AM.L09
open Go.Proofs
abbrev H := Int × Int × Bool × Bool
def cuts42 : List Cut := [⟨42, 5, [(4, none), (1, none), (3, none)]⟩]
abbrev KT := Fr → List Fr → Heap → Option (DV × List Blk)
noncomputable def pick_e (K : KT) (c n : Int) : Option (DV × List Blk) :=
  bif decide (c < 0) then
   bif n == 0 then
    none
   else
    some ((DV.dat (Ty.int .i64) (Int.tmod (wr (0 - wr (c + 1))) n), []))
  else
  bif n == 0 then
   none
  else
   some ((DV.dat (Ty.int .i64) (Int.tmod c n), []))
theorem pick_t (K : KT) (c n : Int) : bigK C1 [] (finF Try.prog [none]) 400 K 3 (startA Try.prog 8 [.dat I c, .dat I n]) [] [] =
    pick_e K c n := by kernel_rfl

noncomputable def take_e (K : KT) (a : A) (t s : Int) : Option (DV × List Blk) :=
  bif !rightB a then
   bif limit 8 (↑(List.length (Prod.fst a)) : Int) then
    bif limit 8 (↑(List.length (Prod.fst (Prod.snd a))) : Int) then
     bif limit 8 (↑(List.length (Prod.snd (Prod.snd a))) : Int) then
      some ((DV.tup [DV.dat (Ty.st (Ty.cons (Ty.sl (Ty.int .i64)) (Ty.cons (Ty.sl (Ty.int .i64)) (Ty.sl (Ty.int .i64))))) a, DV.dat (Ty.st (Ty.cons (Ty.int .i64) (Ty.cons (Ty.int .i64) (Ty.cons Ty.bool Ty.bool)))) (0, 0, false, false), DV.dat (Ty.int .i64) 1], []))
     else
      none
    else
     none
   else
    none
  else
  bif decide (t ≥ 0) then
   bif !decide (t < 64) then
    bif limit 8 (↑(List.length (Prod.fst a)) : Int) then
     bif limit 8 (↑(List.length (Prod.fst (Prod.snd a))) : Int) then
      bif limit 8 (↑(List.length (Prod.snd (Prod.snd a))) : Int) then
       some ((DV.tup [DV.dat (Ty.st (Ty.cons (Ty.sl (Ty.int .i64)) (Ty.cons (Ty.sl (Ty.int .i64)) (Ty.sl (Ty.int .i64))))) a, DV.dat (Ty.st (Ty.cons (Ty.int .i64) (Ty.cons (Ty.int .i64) (Ty.cons Ty.bool Ty.bool)))) (0, 0, false, false), DV.dat (Ty.int .i64) 1], []))
      else
       none
     else
      none
    else
     none
   else
   bif decide (s < 0) then
    bif limit 8 (↑(List.length (Prod.fst a)) : Int) then
     bif limit 8 (↑(List.length (Prod.fst (Prod.snd a))) : Int) then
      bif limit 8 (↑(List.length (Prod.snd (Prod.snd a))) : Int) then
       some ((DV.tup [DV.dat (Ty.st (Ty.cons (Ty.sl (Ty.int .i64)) (Ty.cons (Ty.sl (Ty.int .i64)) (Ty.sl (Ty.int .i64))))) a, DV.dat (Ty.st (Ty.cons (Ty.int .i64) (Ty.cons (Ty.int .i64) (Ty.cons Ty.bool Ty.bool)))) (0, 0, false, false), DV.dat (Ty.int .i64) 1], []))
      else
       none
     else
      none
    else
     none
   else
   bif decide (s ≥ (↑(List.length (Prod.fst a)) : Int)) then
    bif limit 8 (↑(List.length (Prod.fst a)) : Int) then
     bif limit 8 (↑(List.length (Prod.fst (Prod.snd a))) : Int) then
      bif limit 8 (↑(List.length (Prod.snd (Prod.snd a))) : Int) then
       some ((DV.tup [DV.dat (Ty.st (Ty.cons (Ty.sl (Ty.int .i64)) (Ty.cons (Ty.sl (Ty.int .i64)) (Ty.sl (Ty.int .i64))))) a, DV.dat (Ty.st (Ty.cons (Ty.int .i64) (Ty.cons (Ty.int .i64) (Ty.cons Ty.bool Ty.bool)))) (0, 0, false, false), DV.dat (Ty.int .i64) 1], []))
      else
       none
     else
      none
    else
     none
   else
   bif limit 8 (↑(List.length (Prod.fst a)) : Int) then
    bif limit 8 (↑(List.length (Prod.fst (Prod.snd a))) : Int) then
     bif limit 8 (↑(List.length (Prod.snd (Prod.snd a))) : Int) then
      bif ins (Prod.fst a) s then
       bif rd (zel I) (Prod.fst a) s == 0 then
        bif ins (Prod.fst a) s then
         bif ins (Prod.snd (Prod.snd a)) s then
          bif ins (Prod.fst (Prod.snd a)) s then
           bif rd (zel I) (Prod.fst (Prod.snd a)) s == 68719476735 then
            bif limit 8 (↑(List.length (Prod.fst a)) : Int) then
             bif limit 8 (↑(List.length (Prod.fst (Prod.snd a))) : Int) then
              bif limit 8 (↑(List.length (Prod.snd (Prod.snd a))) : Int) then
               some ((DV.tup [DV.dat (Ty.st (Ty.cons (Ty.sl (Ty.int .i64)) (Ty.cons (Ty.sl (Ty.int .i64)) (Ty.sl (Ty.int .i64))))) a, DV.dat (Ty.st (Ty.cons (Ty.int .i64) (Ty.cons (Ty.int .i64) (Ty.cons Ty.bool Ty.bool)))) (0, 0, false, false), DV.dat (Ty.int .i64) 42], []))
              else
               none
             else
              none
            else
             none
           else
           bif ins (Prod.fst (Prod.snd a)) s then
            bif ins (Prod.fst (Prod.snd a)) s then
             bif ins (List.set (Prod.fst a) (Int.toNat s) 1) s then
              bif ins (List.set (Prod.snd (Prod.snd a)) (Int.toNat s) (-1)) s then
               bif ins (List.set (Prod.fst (Prod.snd a)) (Int.toNat s) (wr (rd (zel I) (Prod.fst (Prod.snd a)) s + 1))) s then
                some ((DV.tup [DV.dat (Ty.st (Ty.cons (Ty.sl (Ty.int .i64)) (Ty.cons (Ty.sl (Ty.int .i64)) (Ty.sl (Ty.int .i64))))) (List.set (List.set (Prod.fst a) (Int.toNat s) 1) (Int.toNat s) 1, List.set (Prod.fst (Prod.snd a)) (Int.toNat s) (wr (rd (zel I) (Prod.fst (Prod.snd a)) s + 1)), List.set (List.set (Prod.snd (Prod.snd a)) (Int.toNat s) (-1)) (Int.toNat s) t), DV.dat (Ty.st (Ty.cons (Ty.int .i64) (Ty.cons (Ty.int .i64) (Ty.cons Ty.bool Ty.bool)))) (s, rd (zel I) (List.set (Prod.fst (Prod.snd a)) (Int.toNat s) (wr (rd (zel I) (Prod.fst (Prod.snd a)) s + 1))) s, false, false), DV.dat (Ty.int .i64) 0], []))
               else
                none
              else
               none
             else
              none
            else
             none
           else
            none
          else
           none
         else
          none
        else
         none
       else
       bif limit 8 (↑(List.length (Prod.fst a)) : Int) then
        bif limit 8 (↑(List.length (Prod.fst (Prod.snd a))) : Int) then
         bif limit 8 (↑(List.length (Prod.snd (Prod.snd a))) : Int) then
          some ((DV.tup [DV.dat (Ty.st (Ty.cons (Ty.sl (Ty.int .i64)) (Ty.cons (Ty.sl (Ty.int .i64)) (Ty.sl (Ty.int .i64))))) a, DV.dat (Ty.st (Ty.cons (Ty.int .i64) (Ty.cons (Ty.int .i64) (Ty.cons Ty.bool Ty.bool)))) (0, 0, false, false), DV.dat (Ty.int .i64) 40], []))
         else
          none
        else
         none
       else
        none
      else
       none
     else
      none
    else
     none
   else
    none
  else
  bif limit 8 (↑(List.length (Prod.fst a)) : Int) then
   bif limit 8 (↑(List.length (Prod.fst (Prod.snd a))) : Int) then
    bif limit 8 (↑(List.length (Prod.snd (Prod.snd a))) : Int) then
     some ((DV.tup [DV.dat (Ty.st (Ty.cons (Ty.sl (Ty.int .i64)) (Ty.cons (Ty.sl (Ty.int .i64)) (Ty.sl (Ty.int .i64))))) a, DV.dat (Ty.st (Ty.cons (Ty.int .i64) (Ty.cons (Ty.int .i64) (Ty.cons Ty.bool Ty.bool)))) (0, 0, false, false), DV.dat (Ty.int .i64) 1], []))
    else
     none
   else
    none
  else
   none
theorem take_t (K : KT) (a : A) (t s : Int) : bigK C1 [] (finF Try.prog [some aT, none, none]) 1000 K 40 (startA Try.prog 10 [.dat aT a, .dat I t, .dat I s]) [] [] =
    take_e K a t s := by kernel_rfl

noncomputable def publish_e (K : KT) (a : A) (t : Int) (h : H) : Option (DV × List Blk) :=
  bif !rightB a then
   bif limit 8 (↑(List.length (Prod.fst a)) : Int) then
    bif limit 8 (↑(List.length (Prod.fst (Prod.snd a))) : Int) then
     bif limit 8 (↑(List.length (Prod.snd (Prod.snd a))) : Int) then
      some ((DV.tup [DV.dat (Ty.st (Ty.cons (Ty.sl (Ty.int .i64)) (Ty.cons (Ty.sl (Ty.int .i64)) (Ty.sl (Ty.int .i64))))) a, DV.dat (Ty.int .i64) 1], []))
     else
      none
    else
     none
   else
    none
  else
  bif decide (t ≥ 0) then
   bif !decide (t < 64) then
    bif limit 8 (↑(List.length (Prod.fst a)) : Int) then
     bif limit 8 (↑(List.length (Prod.fst (Prod.snd a))) : Int) then
      bif limit 8 (↑(List.length (Prod.snd (Prod.snd a))) : Int) then
       some ((DV.tup [DV.dat (Ty.st (Ty.cons (Ty.sl (Ty.int .i64)) (Ty.cons (Ty.sl (Ty.int .i64)) (Ty.sl (Ty.int .i64))))) a, DV.dat (Ty.int .i64) 1], []))
      else
       none
     else
      none
    else
     none
   else
   bif decide (Prod.fst h < 0) then
    bif limit 8 (↑(List.length (Prod.fst a)) : Int) then
     bif limit 8 (↑(List.length (Prod.fst (Prod.snd a))) : Int) then
      bif limit 8 (↑(List.length (Prod.snd (Prod.snd a))) : Int) then
       some ((DV.tup [DV.dat (Ty.st (Ty.cons (Ty.sl (Ty.int .i64)) (Ty.cons (Ty.sl (Ty.int .i64)) (Ty.sl (Ty.int .i64))))) a, DV.dat (Ty.int .i64) 1], []))
      else
       none
     else
      none
    else
     none
   else
   bif decide (Prod.fst h ≥ (↑(List.length (Prod.fst a)) : Int)) then
    bif limit 8 (↑(List.length (Prod.fst a)) : Int) then
     bif limit 8 (↑(List.length (Prod.fst (Prod.snd a))) : Int) then
      bif limit 8 (↑(List.length (Prod.snd (Prod.snd a))) : Int) then
       some ((DV.tup [DV.dat (Ty.st (Ty.cons (Ty.sl (Ty.int .i64)) (Ty.cons (Ty.sl (Ty.int .i64)) (Ty.sl (Ty.int .i64))))) a, DV.dat (Ty.int .i64) 1], []))
      else
       none
     else
      none
    else
     none
   else
   bif limit 8 (↑(List.length (Prod.fst a)) : Int) then
    bif limit 8 (↑(List.length (Prod.fst (Prod.snd a))) : Int) then
     bif limit 8 (↑(List.length (Prod.snd (Prod.snd a))) : Int) then
      bif ins (Prod.fst (Prod.snd a)) (Prod.fst h) then
       bif rd (zel I) (Prod.fst (Prod.snd a)) (Prod.fst h) != Prod.fst (Prod.snd h) then
        bif limit 8 (↑(List.length (Prod.fst a)) : Int) then
         bif limit 8 (↑(List.length (Prod.fst (Prod.snd a))) : Int) then
          bif limit 8 (↑(List.length (Prod.snd (Prod.snd a))) : Int) then
           some ((DV.tup [DV.dat (Ty.st (Ty.cons (Ty.sl (Ty.int .i64)) (Ty.cons (Ty.sl (Ty.int .i64)) (Ty.sl (Ty.int .i64))))) a, DV.dat (Ty.int .i64) 42], []))
          else
           none
         else
          none
        else
         none
       else
       bif ins (Prod.fst a) (Prod.fst h) then
        bif rd (zel I) (Prod.fst a) (Prod.fst h) == 1 then
         bif ins (Prod.snd (Prod.snd a)) (Prod.fst h) then
          bif rd (zel I) (Prod.snd (Prod.snd a)) (Prod.fst h) != t then
           bif limit 8 (↑(List.length (Prod.fst a)) : Int) then
            bif limit 8 (↑(List.length (Prod.fst (Prod.snd a))) : Int) then
             bif limit 8 (↑(List.length (Prod.snd (Prod.snd a))) : Int) then
              some ((DV.tup [DV.dat (Ty.st (Ty.cons (Ty.sl (Ty.int .i64)) (Ty.cons (Ty.sl (Ty.int .i64)) (Ty.sl (Ty.int .i64))))) a, DV.dat (Ty.int .i64) 41], []))
             else
              none
            else
             none
           else
            none
          else
          bif ins (Prod.fst a) (Prod.fst h) then
           bif rd (zel I) (Prod.fst a) (Prod.fst h) == 1 then
            bif ins (Prod.fst a) (Prod.fst h) then
             bif ins (Prod.snd (Prod.snd a)) (Prod.fst h) then
              some ((DV.tup [DV.dat (Ty.st (Ty.cons (Ty.sl (Ty.int .i64)) (Ty.cons (Ty.sl (Ty.int .i64)) (Ty.sl (Ty.int .i64))))) (List.set (Prod.fst a) (Int.toNat (Prod.fst h)) 2, Prod.fst (Prod.snd a), List.set (Prod.snd (Prod.snd a)) (Int.toNat (Prod.fst h)) (-1)), DV.dat (Ty.int .i64) 0], []))
             else
              none
            else
             none
           else
           bif limit 8 (↑(List.length (Prod.fst a)) : Int) then
            bif limit 8 (↑(List.length (Prod.fst (Prod.snd a))) : Int) then
             bif limit 8 (↑(List.length (Prod.snd (Prod.snd a))) : Int) then
              some ((DV.tup [DV.dat (Ty.st (Ty.cons (Ty.sl (Ty.int .i64)) (Ty.cons (Ty.sl (Ty.int .i64)) (Ty.sl (Ty.int .i64))))) a, DV.dat (Ty.int .i64) 40], []))
             else
              none
            else
             none
           else
            none
          else
           none
         else
          none
        else
        bif ins (Prod.fst a) (Prod.fst h) then
         bif rd (zel I) (Prod.fst a) (Prod.fst h) == 1 then
          bif ins (Prod.fst a) (Prod.fst h) then
           bif ins (Prod.snd (Prod.snd a)) (Prod.fst h) then
            some ((DV.tup [DV.dat (Ty.st (Ty.cons (Ty.sl (Ty.int .i64)) (Ty.cons (Ty.sl (Ty.int .i64)) (Ty.sl (Ty.int .i64))))) (List.set (Prod.fst a) (Int.toNat (Prod.fst h)) 2, Prod.fst (Prod.snd a), List.set (Prod.snd (Prod.snd a)) (Int.toNat (Prod.fst h)) (-1)), DV.dat (Ty.int .i64) 0], []))
           else
            none
          else
           none
         else
         bif limit 8 (↑(List.length (Prod.fst a)) : Int) then
          bif limit 8 (↑(List.length (Prod.fst (Prod.snd a))) : Int) then
           bif limit 8 (↑(List.length (Prod.snd (Prod.snd a))) : Int) then
            some ((DV.tup [DV.dat (Ty.st (Ty.cons (Ty.sl (Ty.int .i64)) (Ty.cons (Ty.sl (Ty.int .i64)) (Ty.sl (Ty.int .i64))))) a, DV.dat (Ty.int .i64) 40], []))
           else
            none
          else
           none
         else
          none
        else
         none
       else
        none
      else
       none
     else
      none
    else
     none
   else
    none
  else
  bif limit 8 (↑(List.length (Prod.fst a)) : Int) then
   bif limit 8 (↑(List.length (Prod.fst (Prod.snd a))) : Int) then
    bif limit 8 (↑(List.length (Prod.snd (Prod.snd a))) : Int) then
     some ((DV.tup [DV.dat (Ty.st (Ty.cons (Ty.sl (Ty.int .i64)) (Ty.cons (Ty.sl (Ty.int .i64)) (Ty.sl (Ty.int .i64))))) a, DV.dat (Ty.int .i64) 1], []))
    else
     none
   else
    none
  else
   none
theorem publish_t (K : KT) (a : A) (t : Int) (h : H) : bigK C1 [] (finF Try.prog [some aT, none]) 1000 K 40 (startA Try.prog 11 [.dat aT a, .dat I t, .dat hT h]) [] [] =
    publish_e K a t h := by kernel_rfl

noncomputable def retire_e (K : KT) (a : A) (h : H) : Option (DV × List Blk) :=
  bif !rightB a then
   bif limit 8 (↑(List.length (Prod.fst a)) : Int) then
    bif limit 8 (↑(List.length (Prod.fst (Prod.snd a))) : Int) then
     bif limit 8 (↑(List.length (Prod.snd (Prod.snd a))) : Int) then
      some ((DV.tup [DV.dat (Ty.st (Ty.cons (Ty.sl (Ty.int .i64)) (Ty.cons (Ty.sl (Ty.int .i64)) (Ty.sl (Ty.int .i64))))) a, DV.dat (Ty.int .i64) 1], []))
     else
      none
    else
     none
   else
    none
  else
  bif decide (Prod.fst h < 0) then
   bif limit 8 (↑(List.length (Prod.fst a)) : Int) then
    bif limit 8 (↑(List.length (Prod.fst (Prod.snd a))) : Int) then
     bif limit 8 (↑(List.length (Prod.snd (Prod.snd a))) : Int) then
      some ((DV.tup [DV.dat (Ty.st (Ty.cons (Ty.sl (Ty.int .i64)) (Ty.cons (Ty.sl (Ty.int .i64)) (Ty.sl (Ty.int .i64))))) a, DV.dat (Ty.int .i64) 1], []))
     else
      none
    else
     none
   else
    none
  else
  bif decide (Prod.fst h ≥ (↑(List.length (Prod.fst a)) : Int)) then
   bif limit 8 (↑(List.length (Prod.fst a)) : Int) then
    bif limit 8 (↑(List.length (Prod.fst (Prod.snd a))) : Int) then
     bif limit 8 (↑(List.length (Prod.snd (Prod.snd a))) : Int) then
      some ((DV.tup [DV.dat (Ty.st (Ty.cons (Ty.sl (Ty.int .i64)) (Ty.cons (Ty.sl (Ty.int .i64)) (Ty.sl (Ty.int .i64))))) a, DV.dat (Ty.int .i64) 1], []))
     else
      none
    else
     none
   else
    none
  else
  bif limit 8 (↑(List.length (Prod.fst a)) : Int) then
   bif limit 8 (↑(List.length (Prod.fst (Prod.snd a))) : Int) then
    bif limit 8 (↑(List.length (Prod.snd (Prod.snd a))) : Int) then
     bif ins (Prod.fst (Prod.snd a)) (Prod.fst h) then
      bif rd (zel I) (Prod.fst (Prod.snd a)) (Prod.fst h) != Prod.fst (Prod.snd h) then
       bif limit 8 (↑(List.length (Prod.fst a)) : Int) then
        bif limit 8 (↑(List.length (Prod.fst (Prod.snd a))) : Int) then
         bif limit 8 (↑(List.length (Prod.snd (Prod.snd a))) : Int) then
          some ((DV.tup [DV.dat (Ty.st (Ty.cons (Ty.sl (Ty.int .i64)) (Ty.cons (Ty.sl (Ty.int .i64)) (Ty.sl (Ty.int .i64))))) a, DV.dat (Ty.int .i64) 42], []))
         else
          none
        else
         none
       else
        none
      else
      bif ins (Prod.fst a) (Prod.fst h) then
       bif rd (zel I) (Prod.fst a) (Prod.fst h) == 2 then
        bif ins (Prod.fst a) (Prod.fst h) then
         bif ins (Prod.snd (Prod.snd a)) (Prod.fst h) then
          some ((DV.tup [DV.dat (Ty.st (Ty.cons (Ty.sl (Ty.int .i64)) (Ty.cons (Ty.sl (Ty.int .i64)) (Ty.sl (Ty.int .i64))))) (List.set (Prod.fst a) (Int.toNat (Prod.fst h)) 3, Prod.fst (Prod.snd a), List.set (Prod.snd (Prod.snd a)) (Int.toNat (Prod.fst h)) (-1)), DV.dat (Ty.int .i64) 0], []))
         else
          none
        else
         none
       else
       bif limit 8 (↑(List.length (Prod.fst a)) : Int) then
        bif limit 8 (↑(List.length (Prod.fst (Prod.snd a))) : Int) then
         bif limit 8 (↑(List.length (Prod.snd (Prod.snd a))) : Int) then
          some ((DV.tup [DV.dat (Ty.st (Ty.cons (Ty.sl (Ty.int .i64)) (Ty.cons (Ty.sl (Ty.int .i64)) (Ty.sl (Ty.int .i64))))) a, DV.dat (Ty.int .i64) 40], []))
         else
          none
        else
         none
       else
        none
      else
       none
     else
      none
    else
     none
   else
    none
  else
   none
theorem retire_t (K : KT) (a : A) (h : H) : bigK C1 [] (finF Try.prog [some aT, none]) 1000 K 40 (startA Try.prog 12 [.dat aT a, .dat hT h]) [] [] =
    retire_e K a h := by kernel_rfl

noncomputable def back_e (K : KT) (a : A) (h : H) : Option (DV × List Blk) :=
  bif !rightB a then
   bif limit 8 (↑(List.length (Prod.fst a)) : Int) then
    bif limit 8 (↑(List.length (Prod.fst (Prod.snd a))) : Int) then
     bif limit 8 (↑(List.length (Prod.snd (Prod.snd a))) : Int) then
      some ((DV.tup [DV.dat (Ty.st (Ty.cons (Ty.sl (Ty.int .i64)) (Ty.cons (Ty.sl (Ty.int .i64)) (Ty.sl (Ty.int .i64))))) a, DV.dat (Ty.int .i64) 1], []))
     else
      none
    else
     none
   else
    none
  else
  bif decide (Prod.fst h < 0) then
   bif limit 8 (↑(List.length (Prod.fst a)) : Int) then
    bif limit 8 (↑(List.length (Prod.fst (Prod.snd a))) : Int) then
     bif limit 8 (↑(List.length (Prod.snd (Prod.snd a))) : Int) then
      some ((DV.tup [DV.dat (Ty.st (Ty.cons (Ty.sl (Ty.int .i64)) (Ty.cons (Ty.sl (Ty.int .i64)) (Ty.sl (Ty.int .i64))))) a, DV.dat (Ty.int .i64) 1], []))
     else
      none
    else
     none
   else
    none
  else
  bif decide (Prod.fst h ≥ (↑(List.length (Prod.fst a)) : Int)) then
   bif limit 8 (↑(List.length (Prod.fst a)) : Int) then
    bif limit 8 (↑(List.length (Prod.fst (Prod.snd a))) : Int) then
     bif limit 8 (↑(List.length (Prod.snd (Prod.snd a))) : Int) then
      some ((DV.tup [DV.dat (Ty.st (Ty.cons (Ty.sl (Ty.int .i64)) (Ty.cons (Ty.sl (Ty.int .i64)) (Ty.sl (Ty.int .i64))))) a, DV.dat (Ty.int .i64) 1], []))
     else
      none
    else
     none
   else
    none
  else
  bif limit 8 (↑(List.length (Prod.fst a)) : Int) then
   bif limit 8 (↑(List.length (Prod.fst (Prod.snd a))) : Int) then
    bif limit 8 (↑(List.length (Prod.snd (Prod.snd a))) : Int) then
     bif ins (Prod.fst (Prod.snd a)) (Prod.fst h) then
      bif rd (zel I) (Prod.fst (Prod.snd a)) (Prod.fst h) != Prod.fst (Prod.snd h) then
       bif limit 8 (↑(List.length (Prod.fst a)) : Int) then
        bif limit 8 (↑(List.length (Prod.fst (Prod.snd a))) : Int) then
         bif limit 8 (↑(List.length (Prod.snd (Prod.snd a))) : Int) then
          some ((DV.tup [DV.dat (Ty.st (Ty.cons (Ty.sl (Ty.int .i64)) (Ty.cons (Ty.sl (Ty.int .i64)) (Ty.sl (Ty.int .i64))))) a, DV.dat (Ty.int .i64) 42], []))
         else
          none
        else
         none
       else
        none
      else
      bif ins (Prod.fst a) (Prod.fst h) then
       bif rd (zel I) (Prod.fst a) (Prod.fst h) == 3 then
        bif ins (Prod.fst a) (Prod.fst h) then
         bif ins (Prod.snd (Prod.snd a)) (Prod.fst h) then
          some ((DV.tup [DV.dat (Ty.st (Ty.cons (Ty.sl (Ty.int .i64)) (Ty.cons (Ty.sl (Ty.int .i64)) (Ty.sl (Ty.int .i64))))) (List.set (Prod.fst a) (Int.toNat (Prod.fst h)) 0, Prod.fst (Prod.snd a), List.set (Prod.snd (Prod.snd a)) (Int.toNat (Prod.fst h)) (-1)), DV.dat (Ty.int .i64) 0], []))
         else
          none
        else
         none
       else
       bif rd (zel I) (Prod.fst a) (Prod.fst h) == 1 then
        bif ins (Prod.fst a) (Prod.fst h) then
         bif ins (Prod.snd (Prod.snd a)) (Prod.fst h) then
          some ((DV.tup [DV.dat (Ty.st (Ty.cons (Ty.sl (Ty.int .i64)) (Ty.cons (Ty.sl (Ty.int .i64)) (Ty.sl (Ty.int .i64))))) (List.set (Prod.fst a) (Int.toNat (Prod.fst h)) 0, Prod.fst (Prod.snd a), List.set (Prod.snd (Prod.snd a)) (Int.toNat (Prod.fst h)) (-1)), DV.dat (Ty.int .i64) 0], []))
         else
          none
        else
         none
       else
       bif limit 8 (↑(List.length (Prod.fst a)) : Int) then
        bif limit 8 (↑(List.length (Prod.fst (Prod.snd a))) : Int) then
         bif limit 8 (↑(List.length (Prod.snd (Prod.snd a))) : Int) then
          some ((DV.tup [DV.dat (Ty.st (Ty.cons (Ty.sl (Ty.int .i64)) (Ty.cons (Ty.sl (Ty.int .i64)) (Ty.sl (Ty.int .i64))))) a, DV.dat (Ty.int .i64) 40], []))
         else
          none
        else
         none
       else
        none
      else
       none
     else
      none
    else
     none
   else
    none
  else
   none
theorem back_t (K : KT) (a : A) (h : H) : bigK C1 [] (finF Try.prog [some aT, none]) 1000 K 40 (startA Try.prog 13 [.dat aT a, .dat hT h]) [] [] =
    back_e K a h := by kernel_rfl

noncomputable def check_e (K : KT) (a : A) (t : Int) (h : H) : Option (DV × List Blk) :=
  bif !rightB a then
   bif limit 8 (↑(List.length (Prod.fst a)) : Int) then
    bif limit 8 (↑(List.length (Prod.fst (Prod.snd a))) : Int) then
     bif limit 8 (↑(List.length (Prod.snd (Prod.snd a))) : Int) then
      some ((DV.dat (Ty.int .i64) 1, []))
     else
      none
    else
     none
   else
    none
  else
  bif decide (t ≥ 0) then
   bif !decide (t < 64) then
    bif limit 8 (↑(List.length (Prod.fst a)) : Int) then
     bif limit 8 (↑(List.length (Prod.fst (Prod.snd a))) : Int) then
      bif limit 8 (↑(List.length (Prod.snd (Prod.snd a))) : Int) then
       some ((DV.dat (Ty.int .i64) 1, []))
      else
       none
     else
      none
    else
     none
   else
   bif decide (Prod.fst h < 0) then
    bif limit 8 (↑(List.length (Prod.fst a)) : Int) then
     bif limit 8 (↑(List.length (Prod.fst (Prod.snd a))) : Int) then
      bif limit 8 (↑(List.length (Prod.snd (Prod.snd a))) : Int) then
       some ((DV.dat (Ty.int .i64) 1, []))
      else
       none
     else
      none
    else
     none
   else
   bif decide (Prod.fst h ≥ (↑(List.length (Prod.fst a)) : Int)) then
    bif limit 8 (↑(List.length (Prod.fst a)) : Int) then
     bif limit 8 (↑(List.length (Prod.fst (Prod.snd a))) : Int) then
      bif limit 8 (↑(List.length (Prod.snd (Prod.snd a))) : Int) then
       some ((DV.dat (Ty.int .i64) 1, []))
      else
       none
     else
      none
    else
     none
   else
   bif limit 8 (↑(List.length (Prod.fst a)) : Int) then
    bif limit 8 (↑(List.length (Prod.fst (Prod.snd a))) : Int) then
     bif limit 8 (↑(List.length (Prod.snd (Prod.snd a))) : Int) then
      bif ins (Prod.fst (Prod.snd a)) (Prod.fst h) then
       bif rd (zel I) (Prod.fst (Prod.snd a)) (Prod.fst h) != Prod.fst (Prod.snd h) then
        bif limit 8 (↑(List.length (Prod.fst a)) : Int) then
         bif limit 8 (↑(List.length (Prod.fst (Prod.snd a))) : Int) then
          bif limit 8 (↑(List.length (Prod.snd (Prod.snd a))) : Int) then
           some ((DV.dat (Ty.int .i64) 42, []))
          else
           none
         else
          none
        else
         none
       else
       bif ins (Prod.fst a) (Prod.fst h) then
        bif rd (zel I) (Prod.fst a) (Prod.fst h) == 0 then
         bif limit 8 (↑(List.length (Prod.fst a)) : Int) then
          bif limit 8 (↑(List.length (Prod.fst (Prod.snd a))) : Int) then
           bif limit 8 (↑(List.length (Prod.snd (Prod.snd a))) : Int) then
            some ((DV.dat (Ty.int .i64) 40, []))
           else
            none
          else
           none
         else
          none
        else
        bif rd (zel I) (Prod.fst a) (Prod.fst h) == 1 then
         bif ins (Prod.snd (Prod.snd a)) (Prod.fst h) then
          bif rd (zel I) (Prod.snd (Prod.snd a)) (Prod.fst h) != t then
           bif limit 8 (↑(List.length (Prod.fst a)) : Int) then
            bif limit 8 (↑(List.length (Prod.fst (Prod.snd a))) : Int) then
             bif limit 8 (↑(List.length (Prod.snd (Prod.snd a))) : Int) then
              some ((DV.dat (Ty.int .i64) 41, []))
             else
              none
            else
             none
           else
            none
          else
           some ((DV.dat (Ty.int .i64) 0, []))
         else
          none
        else
         some ((DV.dat (Ty.int .i64) 0, []))
       else
        none
      else
       none
     else
      none
    else
     none
   else
    none
  else
  bif limit 8 (↑(List.length (Prod.fst a)) : Int) then
   bif limit 8 (↑(List.length (Prod.fst (Prod.snd a))) : Int) then
    bif limit 8 (↑(List.length (Prod.snd (Prod.snd a))) : Int) then
     some ((DV.dat (Ty.int .i64) 1, []))
    else
     none
   else
    none
  else
   none
theorem check_t (K : KT) (a : A) (t : Int) (h : H) : bigK C1 [] (finF Try.prog [some I]) 1000 K 40 (startA Try.prog 9 [.dat aT a, .dat I t, .dat hT h]) [] [] =
    check_e K a t h := by kernel_rfl

noncomputable def rright_e (K : KT) (a : A) : Option (DV × List Blk) :=
  bif decide ((↑(List.length (Prod.fst a)) : Int) < 1) then
   some ((DV.dat Ty.bool false, []))
  else
  bif decide ((↑(List.length (Prod.fst a)) : Int) > 1000) then
   some ((DV.dat Ty.bool false, []))
  else
  bif (↑(List.length (Prod.fst (Prod.snd a))) : Int) != (↑(List.length (Prod.fst a)) : Int) then
   some ((DV.dat Ty.bool false, []))
  else
  bif (↑(List.length (Prod.snd (Prod.snd a))) : Int) != (↑(List.length (Prod.fst a)) : Int) then
   some ((DV.dat Ty.bool false, []))
  else
   K (headS Try.prog 42 5 [(4, DV.dat (Ty.int .i64) 0), (1, DV.ptr 0 0), (3, DV.dat (Ty.int .i64) (↑(List.length (Prod.fst a)) : Int))]) [] [Blk.cells 26 [DV.dat (Ty.sl (Ty.int .i64)) (Prod.fst a), DV.dat (Ty.sl (Ty.int .i64)) (Prod.fst (Prod.snd a)), DV.dat (Ty.sl (Ty.int .i64)) (Prod.snd (Prod.snd a))]]
theorem rright_t (K : KT) (a : A) : bigK C0 cuts42 (finF Try.prog [some .bool]) 1000 K 40 (startA Try.prog 42 [.dat aT a]) [] [] =
    rright_e K a := by kernel_rfl

noncomputable def rrightL_e (K : KT) (a : A) (i n : Int) : Option (DV × List Blk) :=
  bif decide (i < n) then
   bif ins (Prod.fst (Prod.snd a)) i then
    bif decide (rd (zel I) (Prod.fst (Prod.snd a)) i < 0) then
     some ((DV.dat Ty.bool false, []))
    else
    bif ins (Prod.fst (Prod.snd a)) i then
     bif decide (rd (zel I) (Prod.fst (Prod.snd a)) i > 68719476735) then
      some ((DV.dat Ty.bool false, []))
     else
     bif ins (Prod.fst a) i then
      bif decide (rd (zel I) (Prod.fst a) i < 0) then
       some ((DV.dat Ty.bool false, []))
      else
      bif ins (Prod.fst a) i then
       bif decide (rd (zel I) (Prod.fst a) i > 3) then
        some ((DV.dat Ty.bool false, []))
       else
       bif ins (Prod.fst a) i then
        bif rd (zel I) (Prod.fst a) i == 1 then
         bif ins (Prod.snd (Prod.snd a)) i then
          bif decide (rd (zel I) (Prod.snd (Prod.snd a)) i ≥ 0) then
           bif !decide (rd (zel I) (Prod.snd (Prod.snd a)) i < 64) then
            some ((DV.dat Ty.bool false, []))
           else
           bif ins (Prod.fst a) i then
            bif rd (zel I) (Prod.fst a) i != 1 then
             bif ins (Prod.snd (Prod.snd a)) i then
              bif rd (zel I) (Prod.snd (Prod.snd a)) i != -1 then
               some ((DV.dat Ty.bool false, []))
              else
               K (headS Try.prog 42 5 [(4, DV.dat (Ty.int .i64) (wr (i + 1))), (1, DV.ptr 0 0), (3, DV.dat (Ty.int .i64) n)]) [] [Blk.cells 26 [DV.dat (Ty.sl (Ty.int .i64)) (Prod.fst a), DV.dat (Ty.sl (Ty.int .i64)) (Prod.fst (Prod.snd a)), DV.dat (Ty.sl (Ty.int .i64)) (Prod.snd (Prod.snd a))]]
             else
              none
            else
             K (headS Try.prog 42 5 [(4, DV.dat (Ty.int .i64) (wr (i + 1))), (1, DV.ptr 0 0), (3, DV.dat (Ty.int .i64) n)]) [] [Blk.cells 26 [DV.dat (Ty.sl (Ty.int .i64)) (Prod.fst a), DV.dat (Ty.sl (Ty.int .i64)) (Prod.fst (Prod.snd a)), DV.dat (Ty.sl (Ty.int .i64)) (Prod.snd (Prod.snd a))]]
           else
            none
          else
           some ((DV.dat Ty.bool false, []))
         else
          none
        else
        bif ins (Prod.fst a) i then
         bif rd (zel I) (Prod.fst a) i != 1 then
          bif ins (Prod.snd (Prod.snd a)) i then
           bif rd (zel I) (Prod.snd (Prod.snd a)) i != -1 then
            some ((DV.dat Ty.bool false, []))
           else
            K (headS Try.prog 42 5 [(4, DV.dat (Ty.int .i64) (wr (i + 1))), (1, DV.ptr 0 0), (3, DV.dat (Ty.int .i64) n)]) [] [Blk.cells 26 [DV.dat (Ty.sl (Ty.int .i64)) (Prod.fst a), DV.dat (Ty.sl (Ty.int .i64)) (Prod.fst (Prod.snd a)), DV.dat (Ty.sl (Ty.int .i64)) (Prod.snd (Prod.snd a))]]
          else
           none
         else
          K (headS Try.prog 42 5 [(4, DV.dat (Ty.int .i64) (wr (i + 1))), (1, DV.ptr 0 0), (3, DV.dat (Ty.int .i64) n)]) [] [Blk.cells 26 [DV.dat (Ty.sl (Ty.int .i64)) (Prod.fst a), DV.dat (Ty.sl (Ty.int .i64)) (Prod.fst (Prod.snd a)), DV.dat (Ty.sl (Ty.int .i64)) (Prod.snd (Prod.snd a))]]
        else
         none
       else
        none
      else
       none
     else
      none
    else
     none
   else
    none
  else
   some ((DV.dat Ty.bool true, []))
theorem rrightL_t (K : KT) (a : A) (i n : Int) : bigK C0 cuts42 (finF Try.prog [some .bool]) 1000 K 40 (headS Try.prog 42 5 [(4, .dat I i), (1, .ptr 0 0), (3, .dat I n)]) [] [.cells 26 [.dat L a.1, .dat L a.2.1, .dat L a.2.2]] =
    rrightL_e K a i n := by kernel_rfl

noncomputable def rtake_e (K : KT) (a : A) (t s : Int) : Option (DV × List Blk) :=
  bif !rightB a then
   bif limit 8 (↑(List.length (Prod.fst a)) : Int) && true && true && true then
    bif limit 8 (↑(List.length (Prod.fst (Prod.snd a))) : Int) && true && true && true then
     bif limit 8 (↑(List.length (Prod.snd (Prod.snd a))) : Int) && true && true && true then
      some ((DV.tup [DV.dat (Ty.st (Ty.cons (Ty.sl (Ty.int .i64)) (Ty.cons (Ty.sl (Ty.int .i64)) (Ty.sl (Ty.int .i64))))) a, DV.dat (Ty.st (Ty.cons (Ty.int .i64) (Ty.cons (Ty.int .i64) (Ty.cons Ty.bool Ty.bool)))) (0, 0, false, false), DV.dat (Ty.int .i64) 1], []))
     else
      none
    else
     none
   else
    none
  else
  bif decide (t ≥ 0) then
   bif !decide (t < 64) then
    bif limit 8 (↑(List.length (Prod.fst a)) : Int) && true && true && true then
     bif limit 8 (↑(List.length (Prod.fst (Prod.snd a))) : Int) && true && true && true then
      bif limit 8 (↑(List.length (Prod.snd (Prod.snd a))) : Int) && true && true && true then
       some ((DV.tup [DV.dat (Ty.st (Ty.cons (Ty.sl (Ty.int .i64)) (Ty.cons (Ty.sl (Ty.int .i64)) (Ty.sl (Ty.int .i64))))) a, DV.dat (Ty.st (Ty.cons (Ty.int .i64) (Ty.cons (Ty.int .i64) (Ty.cons Ty.bool Ty.bool)))) (0, 0, false, false), DV.dat (Ty.int .i64) 1], []))
      else
       none
     else
      none
    else
     none
   else
   bif decide (s < 0) then
    bif limit 8 (↑(List.length (Prod.fst a)) : Int) && true && true && true then
     bif limit 8 (↑(List.length (Prod.fst (Prod.snd a))) : Int) && true && true && true then
      bif limit 8 (↑(List.length (Prod.snd (Prod.snd a))) : Int) && true && true && true then
       some ((DV.tup [DV.dat (Ty.st (Ty.cons (Ty.sl (Ty.int .i64)) (Ty.cons (Ty.sl (Ty.int .i64)) (Ty.sl (Ty.int .i64))))) a, DV.dat (Ty.st (Ty.cons (Ty.int .i64) (Ty.cons (Ty.int .i64) (Ty.cons Ty.bool Ty.bool)))) (0, 0, false, false), DV.dat (Ty.int .i64) 1], []))
      else
       none
     else
      none
    else
     none
   else
   bif decide (s ≥ (↑(List.length (Prod.fst a)) : Int)) then
    bif limit 8 (↑(List.length (Prod.fst a)) : Int) && true && true && true then
     bif limit 8 (↑(List.length (Prod.fst (Prod.snd a))) : Int) && true && true && true then
      bif limit 8 (↑(List.length (Prod.snd (Prod.snd a))) : Int) && true && true && true then
       some ((DV.tup [DV.dat (Ty.st (Ty.cons (Ty.sl (Ty.int .i64)) (Ty.cons (Ty.sl (Ty.int .i64)) (Ty.sl (Ty.int .i64))))) a, DV.dat (Ty.st (Ty.cons (Ty.int .i64) (Ty.cons (Ty.int .i64) (Ty.cons Ty.bool Ty.bool)))) (0, 0, false, false), DV.dat (Ty.int .i64) 1], []))
      else
       none
     else
      none
    else
     none
   else
   bif ins (Prod.fst a) s then
    bif rd (zel I) (Prod.fst a) s != 0 then
     bif limit 8 (↑(List.length (Prod.fst a)) : Int) && true && true && true then
      bif limit 8 (↑(List.length (Prod.fst (Prod.snd a))) : Int) && true && true && true then
       bif limit 8 (↑(List.length (Prod.snd (Prod.snd a))) : Int) && true && true && true then
        some ((DV.tup [DV.dat (Ty.st (Ty.cons (Ty.sl (Ty.int .i64)) (Ty.cons (Ty.sl (Ty.int .i64)) (Ty.sl (Ty.int .i64))))) a, DV.dat (Ty.st (Ty.cons (Ty.int .i64) (Ty.cons (Ty.int .i64) (Ty.cons Ty.bool Ty.bool)))) (0, 0, false, false), DV.dat (Ty.int .i64) 40], []))
       else
        none
      else
       none
     else
      none
    else
    bif ins (Prod.fst (Prod.snd a)) s then
     bif rd (zel I) (Prod.fst (Prod.snd a)) s == 68719476735 then
      bif limit 8 (↑(List.length (Prod.fst a)) : Int) && true && true && true then
       bif limit 8 (↑(List.length (Prod.fst (Prod.snd a))) : Int) && true && true && true then
        bif limit 8 (↑(List.length (Prod.snd (Prod.snd a))) : Int) && true && true && true then
         some ((DV.tup [DV.dat (Ty.st (Ty.cons (Ty.sl (Ty.int .i64)) (Ty.cons (Ty.sl (Ty.int .i64)) (Ty.sl (Ty.int .i64))))) a, DV.dat (Ty.st (Ty.cons (Ty.int .i64) (Ty.cons (Ty.int .i64) (Ty.cons Ty.bool Ty.bool)))) (0, 0, false, false), DV.dat (Ty.int .i64) 42], []))
        else
         none
       else
        none
      else
       none
     else
     bif limit 8 (↑(List.length (Prod.fst a)) : Int) && true && true && true then
      bif limit 8 (↑(List.length (Prod.fst (Prod.snd a))) : Int) && true && true && true then
       bif limit 8 (↑(List.length (Prod.snd (Prod.snd a))) : Int) && true && true && true then
        bif ins (Prod.fst a) s then
         bif ins (Prod.snd (Prod.snd a)) s then
          bif ins (Prod.fst (Prod.snd a)) s then
           bif ins (Prod.fst (Prod.snd a)) s then
            bif ins (List.set (Prod.fst (Prod.snd a)) (Int.toNat s) (wr (rd (zel (Ty.int .i64)) (Prod.fst (Prod.snd a)) s + 1))) s then
             some ((DV.tup [DV.dat (Ty.st (Ty.cons (Ty.sl (Ty.int .i64)) (Ty.cons (Ty.sl (Ty.int .i64)) (Ty.sl (Ty.int .i64))))) (List.set (Prod.fst a) (Int.toNat s) 1, List.set (Prod.fst (Prod.snd a)) (Int.toNat s) (wr (rd (zel (Ty.int .i64)) (Prod.fst (Prod.snd a)) s + 1)), List.set (Prod.snd (Prod.snd a)) (Int.toNat s) t), DV.dat (Ty.st (Ty.cons (Ty.int .i64) (Ty.cons (Ty.int .i64) (Ty.cons Ty.bool Ty.bool)))) (s, rd (zel (Ty.int .i64)) (List.set (Prod.fst (Prod.snd a)) (Int.toNat s) (wr (rd (zel (Ty.int .i64)) (Prod.fst (Prod.snd a)) s + 1))) s, false, false), DV.dat (Ty.int .i64) 0], []))
            else
             none
           else
            none
          else
           none
         else
          none
        else
         none
       else
        none
      else
       none
     else
      none
    else
     none
   else
    none
  else
  bif limit 8 (↑(List.length (Prod.fst a)) : Int) && true && true && true then
   bif limit 8 (↑(List.length (Prod.fst (Prod.snd a))) : Int) && true && true && true then
    bif limit 8 (↑(List.length (Prod.snd (Prod.snd a))) : Int) && true && true && true then
     some ((DV.tup [DV.dat (Ty.st (Ty.cons (Ty.sl (Ty.int .i64)) (Ty.cons (Ty.sl (Ty.int .i64)) (Ty.sl (Ty.int .i64))))) a, DV.dat (Ty.st (Ty.cons (Ty.int .i64) (Ty.cons (Ty.int .i64) (Ty.cons Ty.bool Ty.bool)))) (0, 0, false, false), DV.dat (Ty.int .i64) 1], []))
    else
     none
   else
    none
  else
   none
theorem rtake_t (K : KT) (a : A) (t s : Int) : bigK (C1.also 42 rightS) [] (finF Try.prog [some aT, none, none]) 1000 K 40 (startA Try.prog 17 [.dat aT a, .dat I t, .dat I s]) [] [] =
    rtake_e K a t s := by kernel_rfl

noncomputable def rpublish_e (K : KT) (a : A) (t : Int) (h : H) : Option (DV × List Blk) :=
  bif !rightB a then
   bif limit 8 (↑(List.length (Prod.fst a)) : Int) && true && true && true then
    bif limit 8 (↑(List.length (Prod.fst (Prod.snd a))) : Int) && true && true && true then
     bif limit 8 (↑(List.length (Prod.snd (Prod.snd a))) : Int) && true && true && true then
      some ((DV.tup [DV.dat (Ty.st (Ty.cons (Ty.sl (Ty.int .i64)) (Ty.cons (Ty.sl (Ty.int .i64)) (Ty.sl (Ty.int .i64))))) a, DV.dat (Ty.int .i64) 1], []))
     else
      none
    else
     none
   else
    none
  else
  bif decide (t ≥ 0) then
   bif !decide (t < 64) then
    bif limit 8 (↑(List.length (Prod.fst a)) : Int) && true && true && true then
     bif limit 8 (↑(List.length (Prod.fst (Prod.snd a))) : Int) && true && true && true then
      bif limit 8 (↑(List.length (Prod.snd (Prod.snd a))) : Int) && true && true && true then
       some ((DV.tup [DV.dat (Ty.st (Ty.cons (Ty.sl (Ty.int .i64)) (Ty.cons (Ty.sl (Ty.int .i64)) (Ty.sl (Ty.int .i64))))) a, DV.dat (Ty.int .i64) 1], []))
      else
       none
     else
      none
    else
     none
   else
   bif decide (Prod.fst h < 0) then
    bif limit 8 (↑(List.length (Prod.fst a)) : Int) && true && true && true then
     bif limit 8 (↑(List.length (Prod.fst (Prod.snd a))) : Int) && true && true && true then
      bif limit 8 (↑(List.length (Prod.snd (Prod.snd a))) : Int) && true && true && true then
       some ((DV.tup [DV.dat (Ty.st (Ty.cons (Ty.sl (Ty.int .i64)) (Ty.cons (Ty.sl (Ty.int .i64)) (Ty.sl (Ty.int .i64))))) a, DV.dat (Ty.int .i64) 1], []))
      else
       none
     else
      none
    else
     none
   else
   bif decide (Prod.fst h ≥ (↑(List.length (Prod.fst a)) : Int)) then
    bif limit 8 (↑(List.length (Prod.fst a)) : Int) && true && true && true then
     bif limit 8 (↑(List.length (Prod.fst (Prod.snd a))) : Int) && true && true && true then
      bif limit 8 (↑(List.length (Prod.snd (Prod.snd a))) : Int) && true && true && true then
       some ((DV.tup [DV.dat (Ty.st (Ty.cons (Ty.sl (Ty.int .i64)) (Ty.cons (Ty.sl (Ty.int .i64)) (Ty.sl (Ty.int .i64))))) a, DV.dat (Ty.int .i64) 1], []))
      else
       none
     else
      none
    else
     none
   else
   bif ins (Prod.fst (Prod.snd a)) (Prod.fst h) then
    bif rd (zel I) (Prod.fst (Prod.snd a)) (Prod.fst h) != Prod.fst (Prod.snd h) then
     bif limit 8 (↑(List.length (Prod.fst a)) : Int) && true && true && true then
      bif limit 8 (↑(List.length (Prod.fst (Prod.snd a))) : Int) && true && true && true then
       bif limit 8 (↑(List.length (Prod.snd (Prod.snd a))) : Int) && true && true && true then
        some ((DV.tup [DV.dat (Ty.st (Ty.cons (Ty.sl (Ty.int .i64)) (Ty.cons (Ty.sl (Ty.int .i64)) (Ty.sl (Ty.int .i64))))) a, DV.dat (Ty.int .i64) 42], []))
       else
        none
      else
       none
     else
      none
    else
    bif ins (Prod.fst a) (Prod.fst h) then
     bif rd (zel I) (Prod.fst a) (Prod.fst h) != 1 then
      bif limit 8 (↑(List.length (Prod.fst a)) : Int) && true && true && true then
       bif limit 8 (↑(List.length (Prod.fst (Prod.snd a))) : Int) && true && true && true then
        bif limit 8 (↑(List.length (Prod.snd (Prod.snd a))) : Int) && true && true && true then
         some ((DV.tup [DV.dat (Ty.st (Ty.cons (Ty.sl (Ty.int .i64)) (Ty.cons (Ty.sl (Ty.int .i64)) (Ty.sl (Ty.int .i64))))) a, DV.dat (Ty.int .i64) 40], []))
        else
         none
       else
        none
      else
       none
     else
     bif ins (Prod.snd (Prod.snd a)) (Prod.fst h) then
      bif rd (zel I) (Prod.snd (Prod.snd a)) (Prod.fst h) != t then
       bif limit 8 (↑(List.length (Prod.fst a)) : Int) && true && true && true then
        bif limit 8 (↑(List.length (Prod.fst (Prod.snd a))) : Int) && true && true && true then
         bif limit 8 (↑(List.length (Prod.snd (Prod.snd a))) : Int) && true && true && true then
          some ((DV.tup [DV.dat (Ty.st (Ty.cons (Ty.sl (Ty.int .i64)) (Ty.cons (Ty.sl (Ty.int .i64)) (Ty.sl (Ty.int .i64))))) a, DV.dat (Ty.int .i64) 41], []))
         else
          none
        else
         none
       else
        none
      else
      bif limit 8 (↑(List.length (Prod.fst a)) : Int) && true && true && true then
       bif limit 8 (↑(List.length (Prod.fst (Prod.snd a))) : Int) && true && true && true then
        bif limit 8 (↑(List.length (Prod.snd (Prod.snd a))) : Int) && true && true && true then
         bif ins (Prod.fst a) (Prod.fst h) then
          bif ins (Prod.snd (Prod.snd a)) (Prod.fst h) then
           some ((DV.tup [DV.dat (Ty.st (Ty.cons (Ty.sl (Ty.int .i64)) (Ty.cons (Ty.sl (Ty.int .i64)) (Ty.sl (Ty.int .i64))))) (List.set (Prod.fst a) (Int.toNat (Prod.fst h)) 2, Prod.fst (Prod.snd a), List.set (Prod.snd (Prod.snd a)) (Int.toNat (Prod.fst h)) (-1)), DV.dat (Ty.int .i64) 0], []))
          else
           none
         else
          none
        else
         none
       else
        none
      else
       none
     else
      none
    else
     none
   else
    none
  else
  bif limit 8 (↑(List.length (Prod.fst a)) : Int) && true && true && true then
   bif limit 8 (↑(List.length (Prod.fst (Prod.snd a))) : Int) && true && true && true then
    bif limit 8 (↑(List.length (Prod.snd (Prod.snd a))) : Int) && true && true && true then
     some ((DV.tup [DV.dat (Ty.st (Ty.cons (Ty.sl (Ty.int .i64)) (Ty.cons (Ty.sl (Ty.int .i64)) (Ty.sl (Ty.int .i64))))) a, DV.dat (Ty.int .i64) 1], []))
    else
     none
   else
    none
  else
   none
theorem rpublish_t (K : KT) (a : A) (t : Int) (h : H) : bigK (C1.also 42 rightS) [] (finF Try.prog [some aT, none]) 1000 K 40 (startA Try.prog 18 [.dat aT a, .dat I t, .dat hT h]) [] [] =
    rpublish_e K a t h := by kernel_rfl

noncomputable def rretire_e (K : KT) (a : A) (h : H) : Option (DV × List Blk) :=
  bif !rightB a then
   bif limit 8 (↑(List.length (Prod.fst a)) : Int) && true && true && true then
    bif limit 8 (↑(List.length (Prod.fst (Prod.snd a))) : Int) && true && true && true then
     bif limit 8 (↑(List.length (Prod.snd (Prod.snd a))) : Int) && true && true && true then
      some ((DV.tup [DV.dat (Ty.st (Ty.cons (Ty.sl (Ty.int .i64)) (Ty.cons (Ty.sl (Ty.int .i64)) (Ty.sl (Ty.int .i64))))) a, DV.dat (Ty.int .i64) 1], []))
     else
      none
    else
     none
   else
    none
  else
  bif decide (Prod.fst h < 0) then
   bif limit 8 (↑(List.length (Prod.fst a)) : Int) && true && true && true then
    bif limit 8 (↑(List.length (Prod.fst (Prod.snd a))) : Int) && true && true && true then
     bif limit 8 (↑(List.length (Prod.snd (Prod.snd a))) : Int) && true && true && true then
      some ((DV.tup [DV.dat (Ty.st (Ty.cons (Ty.sl (Ty.int .i64)) (Ty.cons (Ty.sl (Ty.int .i64)) (Ty.sl (Ty.int .i64))))) a, DV.dat (Ty.int .i64) 1], []))
     else
      none
    else
     none
   else
    none
  else
  bif decide (Prod.fst h ≥ (↑(List.length (Prod.fst a)) : Int)) then
   bif limit 8 (↑(List.length (Prod.fst a)) : Int) && true && true && true then
    bif limit 8 (↑(List.length (Prod.fst (Prod.snd a))) : Int) && true && true && true then
     bif limit 8 (↑(List.length (Prod.snd (Prod.snd a))) : Int) && true && true && true then
      some ((DV.tup [DV.dat (Ty.st (Ty.cons (Ty.sl (Ty.int .i64)) (Ty.cons (Ty.sl (Ty.int .i64)) (Ty.sl (Ty.int .i64))))) a, DV.dat (Ty.int .i64) 1], []))
     else
      none
    else
     none
   else
    none
  else
  bif ins (Prod.fst (Prod.snd a)) (Prod.fst h) then
   bif rd (zel I) (Prod.fst (Prod.snd a)) (Prod.fst h) != Prod.fst (Prod.snd h) then
    bif limit 8 (↑(List.length (Prod.fst a)) : Int) && true && true && true then
     bif limit 8 (↑(List.length (Prod.fst (Prod.snd a))) : Int) && true && true && true then
      bif limit 8 (↑(List.length (Prod.snd (Prod.snd a))) : Int) && true && true && true then
       some ((DV.tup [DV.dat (Ty.st (Ty.cons (Ty.sl (Ty.int .i64)) (Ty.cons (Ty.sl (Ty.int .i64)) (Ty.sl (Ty.int .i64))))) a, DV.dat (Ty.int .i64) 42], []))
      else
       none
     else
      none
    else
     none
   else
   bif ins (Prod.fst a) (Prod.fst h) then
    bif rd (zel I) (Prod.fst a) (Prod.fst h) != 2 then
     bif limit 8 (↑(List.length (Prod.fst a)) : Int) && true && true && true then
      bif limit 8 (↑(List.length (Prod.fst (Prod.snd a))) : Int) && true && true && true then
       bif limit 8 (↑(List.length (Prod.snd (Prod.snd a))) : Int) && true && true && true then
        some ((DV.tup [DV.dat (Ty.st (Ty.cons (Ty.sl (Ty.int .i64)) (Ty.cons (Ty.sl (Ty.int .i64)) (Ty.sl (Ty.int .i64))))) a, DV.dat (Ty.int .i64) 40], []))
       else
        none
      else
       none
     else
      none
    else
    bif limit 8 (↑(List.length (Prod.fst a)) : Int) && true && true && true then
     bif limit 8 (↑(List.length (Prod.fst (Prod.snd a))) : Int) && true && true && true then
      bif limit 8 (↑(List.length (Prod.snd (Prod.snd a))) : Int) && true && true && true then
       bif ins (Prod.fst a) (Prod.fst h) then
        bif ins (Prod.snd (Prod.snd a)) (Prod.fst h) then
         some ((DV.tup [DV.dat (Ty.st (Ty.cons (Ty.sl (Ty.int .i64)) (Ty.cons (Ty.sl (Ty.int .i64)) (Ty.sl (Ty.int .i64))))) (List.set (Prod.fst a) (Int.toNat (Prod.fst h)) 3, Prod.fst (Prod.snd a), List.set (Prod.snd (Prod.snd a)) (Int.toNat (Prod.fst h)) (-1)), DV.dat (Ty.int .i64) 0], []))
        else
         none
       else
        none
      else
       none
     else
      none
    else
     none
   else
    none
  else
   none
theorem rretire_t (K : KT) (a : A) (h : H) : bigK (C1.also 42 rightS) [] (finF Try.prog [some aT, none]) 1000 K 40 (startA Try.prog 19 [.dat aT a, .dat hT h]) [] [] =
    rretire_e K a h := by kernel_rfl

noncomputable def rback_e (K : KT) (a : A) (h : H) : Option (DV × List Blk) :=
  bif !rightB a then
   bif limit 8 (↑(List.length (Prod.fst a)) : Int) && true && true && true then
    bif limit 8 (↑(List.length (Prod.fst (Prod.snd a))) : Int) && true && true && true then
     bif limit 8 (↑(List.length (Prod.snd (Prod.snd a))) : Int) && true && true && true then
      some ((DV.tup [DV.dat (Ty.st (Ty.cons (Ty.sl (Ty.int .i64)) (Ty.cons (Ty.sl (Ty.int .i64)) (Ty.sl (Ty.int .i64))))) a, DV.dat (Ty.int .i64) 1], []))
     else
      none
    else
     none
   else
    none
  else
  bif decide (Prod.fst h < 0) then
   bif limit 8 (↑(List.length (Prod.fst a)) : Int) && true && true && true then
    bif limit 8 (↑(List.length (Prod.fst (Prod.snd a))) : Int) && true && true && true then
     bif limit 8 (↑(List.length (Prod.snd (Prod.snd a))) : Int) && true && true && true then
      some ((DV.tup [DV.dat (Ty.st (Ty.cons (Ty.sl (Ty.int .i64)) (Ty.cons (Ty.sl (Ty.int .i64)) (Ty.sl (Ty.int .i64))))) a, DV.dat (Ty.int .i64) 1], []))
     else
      none
    else
     none
   else
    none
  else
  bif decide (Prod.fst h ≥ (↑(List.length (Prod.fst a)) : Int)) then
   bif limit 8 (↑(List.length (Prod.fst a)) : Int) && true && true && true then
    bif limit 8 (↑(List.length (Prod.fst (Prod.snd a))) : Int) && true && true && true then
     bif limit 8 (↑(List.length (Prod.snd (Prod.snd a))) : Int) && true && true && true then
      some ((DV.tup [DV.dat (Ty.st (Ty.cons (Ty.sl (Ty.int .i64)) (Ty.cons (Ty.sl (Ty.int .i64)) (Ty.sl (Ty.int .i64))))) a, DV.dat (Ty.int .i64) 1], []))
     else
      none
    else
     none
   else
    none
  else
  bif ins (Prod.fst (Prod.snd a)) (Prod.fst h) then
   bif rd (zel I) (Prod.fst (Prod.snd a)) (Prod.fst h) != Prod.fst (Prod.snd h) then
    bif limit 8 (↑(List.length (Prod.fst a)) : Int) && true && true && true then
     bif limit 8 (↑(List.length (Prod.fst (Prod.snd a))) : Int) && true && true && true then
      bif limit 8 (↑(List.length (Prod.snd (Prod.snd a))) : Int) && true && true && true then
       some ((DV.tup [DV.dat (Ty.st (Ty.cons (Ty.sl (Ty.int .i64)) (Ty.cons (Ty.sl (Ty.int .i64)) (Ty.sl (Ty.int .i64))))) a, DV.dat (Ty.int .i64) 42], []))
      else
       none
     else
      none
    else
     none
   else
   bif ins (Prod.fst a) (Prod.fst h) then
    bif rd (zel I) (Prod.fst a) (Prod.fst h) != 3 then
     bif ins (Prod.fst a) (Prod.fst h) then
      bif rd (zel I) (Prod.fst a) (Prod.fst h) != 1 then
       bif limit 8 (↑(List.length (Prod.fst a)) : Int) && true && true && true then
        bif limit 8 (↑(List.length (Prod.fst (Prod.snd a))) : Int) && true && true && true then
         bif limit 8 (↑(List.length (Prod.snd (Prod.snd a))) : Int) && true && true && true then
          some ((DV.tup [DV.dat (Ty.st (Ty.cons (Ty.sl (Ty.int .i64)) (Ty.cons (Ty.sl (Ty.int .i64)) (Ty.sl (Ty.int .i64))))) a, DV.dat (Ty.int .i64) 40], []))
         else
          none
        else
         none
       else
        none
      else
      bif limit 8 (↑(List.length (Prod.fst a)) : Int) && true && true && true then
       bif limit 8 (↑(List.length (Prod.fst (Prod.snd a))) : Int) && true && true && true then
        bif limit 8 (↑(List.length (Prod.snd (Prod.snd a))) : Int) && true && true && true then
         bif ins (Prod.fst a) (Prod.fst h) then
          bif ins (Prod.snd (Prod.snd a)) (Prod.fst h) then
           some ((DV.tup [DV.dat (Ty.st (Ty.cons (Ty.sl (Ty.int .i64)) (Ty.cons (Ty.sl (Ty.int .i64)) (Ty.sl (Ty.int .i64))))) (List.set (Prod.fst a) (Int.toNat (Prod.fst h)) 0, Prod.fst (Prod.snd a), List.set (Prod.snd (Prod.snd a)) (Int.toNat (Prod.fst h)) (-1)), DV.dat (Ty.int .i64) 0], []))
          else
           none
         else
          none
        else
         none
       else
        none
      else
       none
     else
      none
    else
    bif limit 8 (↑(List.length (Prod.fst a)) : Int) && true && true && true then
     bif limit 8 (↑(List.length (Prod.fst (Prod.snd a))) : Int) && true && true && true then
      bif limit 8 (↑(List.length (Prod.snd (Prod.snd a))) : Int) && true && true && true then
       bif ins (Prod.fst a) (Prod.fst h) then
        bif ins (Prod.snd (Prod.snd a)) (Prod.fst h) then
         some ((DV.tup [DV.dat (Ty.st (Ty.cons (Ty.sl (Ty.int .i64)) (Ty.cons (Ty.sl (Ty.int .i64)) (Ty.sl (Ty.int .i64))))) (List.set (Prod.fst a) (Int.toNat (Prod.fst h)) 0, Prod.fst (Prod.snd a), List.set (Prod.snd (Prod.snd a)) (Int.toNat (Prod.fst h)) (-1)), DV.dat (Ty.int .i64) 0], []))
        else
         none
       else
        none
      else
       none
     else
      none
    else
     none
   else
    none
  else
   none
theorem rback_t (K : KT) (a : A) (h : H) : bigK (C1.also 42 rightS) [] (finF Try.prog [some aT, none]) 1000 K 40 (startA Try.prog 20 [.dat aT a, .dat hT h]) [] [] =
    rback_e K a h := by kernel_rfl

end Go.AM.L09
