/- DERIVED. NO CLAIM IN IT. The laws HandleBits and HandleBack, plainly. -/
import Derived.Test.YtigfnidgpmfneaaL01Word
set_option linter.unusedVariables false
set_option linter.unusedSimpArgs false
namespace Go.AM.L01
open Go.RowKit Go.Proofs
@[reducible] def A3 : Ty := .st (.cons (.int .i64) (.cons (.int .i64) (.int .i64)))
def bo (b : Bool) : Option (DV × List Blk) := some (.dat .bool b, [])

def bitsE (a b : H) (m f : Bool) : Option (DV × List Blk) :=
  bif packE a == 0 then bif packE b == 0 then bif errF (packF a) == 0 then bif errF (withF (packF a) m f) == 0 then bif errF (withF (packF a) m f) == 0 then
    bif (unpF (withF (packF a) m f)).2.2.1 == m then bif (unpF (withF (packF a) m f)).2.2.2 == f then
      bif withF (withF (packF a) m f) false false == bareF (packF a) then bif bareF (withF (packF a) m f) == withF (withF (packF a) m f) false false then
        bif sameF (packF a) (withF (packF a) m f) then bif sameF (withF (packF a) m f) (packF a) then
          bif sameF (packF a) (packF b) == sameF (withF (packF a) m f) (packF b) then bo (sameF (packF a) (packF b) == (bareF (packF a) == bareF (packF b)))
  else bo false else bo false else bo false else bo false else bo false else bo false else bo false else bo false else bo false else bo false else bo false else bo false
theorem bitsT (k : Nat) (o t : Int × Int × Int) (m f : Bool) : big C3 [] (finF Try.prog [some .bool]) 1000 (k + 9) (startA Try.prog 5 [.dat A3 o, .dat A3 t, .dat .bool m, .dat .bool f]) [] [] =
    bitsE (handF o.1 o.2.1 o.2.2) (handF t.1 t.2.1 t.2.2) m f := by kernel_rfl

theorem with_good {a : Int} (h : good a) (m f : Bool) : good (withF a m f) := by
  rw [withF_good h]
  have := b2_range m
  have := b2_range f
  obtain ⟨h1, h2⟩ := h
  unfold good
  omega
theorem sameF_good {a b : Int} (ha : good a) (hb : good b) : sameF a b = decide (a / 4 = b / 4) := by
  unfold sameF
  rw [bareF_good ha, bareF_good hb]
  obtain ⟨h1, h2⟩ := ha
  obtain ⟨h3, h4⟩ := hb
  by_cases h : a / 4 = b / 4
  · rw [h, decide_eq_true rfl, beq_self_eq_true, cond_true, bne_iff_ne]
    omega
  · have : (a / 4 * 4 == b / 4 * 4) = false := by rw [beq_eq_false_iff_ne]; omega
    rw [this, decide_eq_false h]; rfl

theorem bitsPure (o t : Int × Int × Int) (m f : Bool) (ho : In o.1 ∧ In o.2.1 ∧ In o.2.2) (ht : In t.1 ∧ In t.2.1 ∧ In t.2.2) (_ : True) (_ : True) : ∃ k, big C3 [] (finF Try.prog [some .bool]) 1000 k (startA Try.prog 5 (datA [A3, A3, .bool, .bool] (o, t, m, f, ()))) [] [] = some (.dat .bool true, []) := by
  refine ⟨9, (bitsT 0 o t m f).trans ?_⟩
  have h1 := hand_ok (c := o.2.2) ho.1 ho.2.1
  have h2 := hand_ok (c := t.2.2) ht.1 ht.2.1
  generalize handF o.1 o.2.1 o.2.2 = x at *
  generalize handF t.1 t.2.1 t.2.2 = y at *
  have ga := pack_good h1
  have gb := pack_good h2
  unfold bitsE
  rw [packE_ok h1, packE_ok h2]
  generalize packF x = a at *
  generalize packF y = b at *
  have gw := with_good ga m f
  have e1 := b2_range m
  have e2 := b2_range f
  have ew := withF_good ga m f
  rw [err_good ga, err_good gw, unpF_good gw, withF_good gw, bareF_good ga, bareF_good gb, bareF_good gw, sameF_good ga gw, sameF_good gw ga, sameF_good ga gb, sameF_good gw gb]
  generalize withF a m f = w at *
  have q : w / 4 = a / 4 := by omega
  have q1 : (wordH w).2.2.1 = m := by
    show decide (w % 2 = 1) = m
    exact Eq.trans (decide_eq_decide.2 (by omega)) (b2_odd m)
  have q2 : (wordH w).2.2.2 = f := by
    show decide (w / 2 % 2 = 1) = f
    exact Eq.trans (decide_eq_decide.2 (by omega)) (b2_odd f)
  have q3 : (a / 4 * 4 == b / 4 * 4) = decide (a / 4 = b / 4) := by
    by_cases h : a / 4 = b / 4
    · rw [h, decide_eq_true rfl, beq_self_eq_true]
    · rw [decide_eq_false h, beq_eq_false_iff_ne]; omega
  have q4 : (4 * (a / 4) + b2 false + 2 * b2 false == a / 4 * 4) = true := by rw [beq_iff_eq, show b2 false = 0 from rfl]; omega
  have q5 : (a / 4 * 4 == 4 * (a / 4) + b2 false + 2 * b2 false) = true := by rw [beq_iff_eq, show b2 false = 0 from rfl]; omega
  rw [q1, q2, q, q3, q4, q5]
  simp only [beq_self_eq_true, cond_true, decide_true]
  rfl

/-! ### HandleBack -/
def eqH (x y : H) : Bool := x.1 == y.1 && (x.2.1 == y.2.1 && (x.2.2.1 == y.2.2.1 && x.2.2.2 == y.2.2.2))
theorem eqH_iff (x y : H) : eqH x y = decide (x = y) := by
  obtain ⟨a, b, c, d⟩ := x
  obtain ⟨a', b', c', d'⟩ := y
  apply Bool.eq_iff_iff.2
  simp [eqH]
def backE (a b : H) (w : Int) : Option (DV × List Blk) :=
  bif packE a != 0 then bo false else bif packE b != 0 then bo false else bif errF (packF a) != 0 then bo false else bif !(eqH (unpF (packF a)) a) then bo false else
    bif decide (packF a ≤ 3) then bo false else bif !(packF a == packF b) == eqH a b then bo false else
      bif errF w != 0 then bif eqH (unpF w) (0, 0, false, false) then bo ((errF w == 10) == (w == 0)) else bo false else
        bif packE (unpF w) == 0 then bo (packF (unpF w) == w) else bo false
theorem backT (k : Nat) (o t : Int × Int × Int) (w : Int) : big C3 [] (finF Try.prog [some .bool]) 1000 (k + 9) (startA Try.prog 4 [.dat A3 o, .dat A3 t, .dat I w]) [] [] =
    backE (handF o.1 o.2.1 o.2.2) (handF t.1 t.2.1 t.2.2) w := by kernel_rfl

theorem good_dec (a : Int) : good a ∨ ¬ good a := by unfold good; omega
theorem backPure (o t : Int × Int × Int) (w : Int) (ho : In o.1 ∧ In o.2.1 ∧ In o.2.2) (ht : In t.1 ∧ In t.2.1 ∧ In t.2.2) (hw : In w) : ∃ k, big C3 [] (finF Try.prog [some .bool]) 1000 k (startA Try.prog 4 (datA [A3, A3, I] (o, t, w, ()))) [] [] = some (.dat .bool true, []) := by
  refine ⟨9, (backT 0 o t w).trans ?_⟩
  have h1 := hand_ok (c := o.2.2) ho.1 ho.2.1
  have h2 := hand_ok (c := t.2.2) ht.1 ht.2.1
  generalize handF o.1 o.2.1 o.2.2 = x at *
  generalize handF t.1 t.2.1 t.2.2 = y at *
  have ga := pack_good h1
  have wa := wordH_pack h1
  have wb := wordH_pack h2
  unfold backE
  have q1 : (packF x == packF y) = eqH x y := by
    rw [eqH_iff]
    by_cases h : x = y
    · rw [h, decide_eq_true rfl, beq_self_eq_true]
    · rw [decide_eq_false h, beq_eq_false_iff_ne]
      intro e
      rw [← wa, ← wb, e] at h
      exact h rfl
  have q2 : decide (packF x ≤ 3) = false := decide_eq_false (by have := ga.1; omega)
  have q3 : eqH x x = true := by rw [eqH_iff, decide_eq_true rfl]
  rw [packE_ok h1, packE_ok h2, err_good ga, unpF_good ga, wa, q1, q2, q3]
  have q4 : (!eqH x y == eqH x y) = false := by cases eqH x y <;> rfl
  rw [q4]
  simp only [bne_self_eq_false, cond_false, Bool.not_true]
  rcases good_dec w with g | g
  · rw [err_good g, unpF_good g, packE_ok (wordH_ok g), packF_wordH g]
    simp only [bne_self_eq_false, cond_false, beq_self_eq_true, cond_true]
    rfl
  · rw [unpF_bad hw g, err_bad hw g]
    by_cases e : w = 0
    · rw [if_pos e, e]; rfl
    · rw [if_neg e]
      have : (w == 0) = false := by rw [beq_eq_false_iff_ne]; exact e
      rw [this]; rfl
end Go.AM.L01
