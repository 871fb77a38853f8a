/- DERIVED. NO CLAIM IN IT. The law HandleGrows, plainly. -/
import Derived.Test.YtigfnidgpmfneaaL01Laws
set_option linter.unusedVariables false
set_option linter.unusedSimpArgs false
namespace Go.AM.L01
open Go.RowKit Go.Proofs
@[reducible] def A2 : Ty := .st (.cons (.int .i64) (.int .i64))

def growsE (a b c : H) : Option (DV × List Blk) :=
  bif packE a == 0 then bif packE b == 0 then bif packE c == 0 then
    bif a.2.1 == b.2.1 then (bif a.1 == c.1 then bo true else bo (decide (a.1 < c.1) == decide (packF a < packF c))) else
      bif decide (a.2.1 < b.2.1) == decide (packF a < packF b) then (bif a.1 == c.1 then bo true else bo (decide (a.1 < c.1) == decide (packF a < packF c))) else bo false
    else bo false else bo false else bo false
theorem growsT (k : Nat) (s v b : Int × Int) : big C3 [] (finF Try.prog [some .bool]) 1000 (k + 9) (startA Try.prog 6 [.dat A2 s, .dat A2 v, .dat A2 b]) [] [] =
    growsE (handF s.1 v.1 b.1) (handF s.1 v.2 b.2) (handF s.2 v.1 b.2) := by kernel_rfl



theorem growsPure (s v b : Int × Int) (hs : In s.1 ∧ In s.2) (hv : In v.1 ∧ In v.2) (hb : In b.1 ∧ In b.2) : ∃ k, big C3 [] (finF Try.prog [some .bool]) 1000 k (startA Try.prog 6 (datA [A2, A2, A2] (s, v, b, ()))) [] [] = some (.dat .bool true, []) := by
  refine ⟨9, (growsT 0 s v b).trans ?_⟩
  have h1 := hand_ok (c := b.1) hs.1 hv.1
  have h2 := hand_ok (c := b.2) hs.1 hv.2
  have h3 := hand_ok (c := b.2) hs.2 hv.1
  have e1 : (handF s.1 v.1 b.1).1 = (handF s.1 v.2 b.2).1 := rfl
  have e2 : (handF s.1 v.1 b.1).2.1 = (handF s.2 v.1 b.2).2.1 := rfl
  generalize handF s.1 v.1 b.1 = x at *
  generalize handF s.1 v.2 b.2 = y at *
  generalize handF s.2 v.1 b.2 = z at *
  unfold growsE
  rw [packE_ok h1, packE_ok h2, packE_ok h3, packF_val h1, packF_val h2, packF_val h3]
  obtain ⟨p1, p2, p3, p4⟩ := h1
  obtain ⟨q1, q2, q3, q4⟩ := h2
  obtain ⟨r1, r2, r3, r4⟩ := h3
  have m1 := b2_range x.2.2.1
  have m2 := b2_range x.2.2.2
  have m3 := b2_range y.2.2.1
  have m4 := b2_range y.2.2.2
  have m5 := b2_range z.2.2.1
  have m6 := b2_range z.2.2.2
  have last : (x.1 == z.1) = false → (decide (x.1 < z.1) == decide (4 * (x.2.1 * 1048576 + x.1 + 1) + b2 x.2.2.1 + 2 * b2 x.2.2.2 < 4 * (z.2.1 * 1048576 + z.1 + 1) + b2 z.2.2.1 + 2 * b2 z.2.2.2)) = true := by
    intro h
    have h : x.1 ≠ z.1 := by simpa using h
    rw [beq_iff_eq, decide_eq_decide]
    omega
  have lastE : (bif x.1 == z.1 then bo true else bo (decide (x.1 < z.1) == decide (4 * (x.2.1 * 1048576 + x.1 + 1) + b2 x.2.2.1 + 2 * b2 x.2.2.2 < 4 * (z.2.1 * 1048576 + z.1 + 1) + b2 z.2.2.1 + 2 * b2 z.2.2.2))) = bo true := by
    cases h : (x.1 == z.1) with
    | true => rfl
    | false => rw [last h]; rfl
  rw [lastE]
  simp only [beq_self_eq_true, cond_true]
  cases h : (x.2.1 == y.2.1) with
  | true => rfl
  | false =>
    have h : x.2.1 ≠ y.2.1 := by simpa using h
    have : (decide (x.2.1 < y.2.1) == decide (4 * (x.2.1 * 1048576 + x.1 + 1) + b2 x.2.2.1 + 2 * b2 x.2.2.2 < 4 * (y.2.1 * 1048576 + y.1 + 1) + b2 y.2.2.1 + 2 * b2 y.2.2.2)) = true := by
      rw [beq_iff_eq, decide_eq_decide]
      omega
    rw [this]
    rfl
end Go.AM.L01
