/- DERIVED. NO CLAIM IN IT. Plain facts on words. -/
import Derived.Test.YtigfnidgpmfneaaL01Fns
import Derived.IntWalk
set_option linter.unusedVariables false
set_option linter.unusedSimpArgs false
namespace Go.AM.L01
open Go.RowKit Go.Proofs Go.IntWalk

def In (a : Int) : Prop := -9223372036854775808 ≤ a ∧ a ≤ 9223372036854775807

theorem sr2 (a : Int) : sr 2 a = a / 4 := by
  have : sr 2 a = a.fdiv 4 := rfl
  rw [this, Int.fdiv_eq_ediv_of_nonneg _ (by omega)]

theorem sr20 (a : Int) : sr 20 a = a / 1048576 := by
  have : sr 20 a = a.fdiv 1048576 := rfl
  rw [this, Int.fdiv_eq_ediv_of_nonneg _ (by omega)]

theorem wr_in {a : Int} (h : In a) : wr a = a := i64_in a h
theorem wr_range (a : Int) : In (wr a) := by
  unfold wr In
  rw [i64_left]
  unfold wrap64
  omega

theorem pow63 : (2 ^ 63 : Nat) = 9223372036854775808 := rfl

/-- The bits of a small number that is no less than 0. -/
theorem ofInt_toNat {n : Nat} (h : n < 2 ^ 64) : (BitVec.ofInt IntKind.i64.bits (n : Int)).toNat = n := by
  show (BitVec.ofInt 64 (n : Int)).toNat = n
  simp [BitVec.toNat_ofInt]
  omega

theorem bclr_ne {a : Int} (h : 4 ≤ a) (h2 : a ≤ 9223372036854775807) : bclr a 3 ≠ 0 := by
  obtain ⟨n, rfl⟩ := Int.eq_ofNat_of_zero_le (show 0 ≤ a by omega)
  unfold bclr
  intro e
  have hv : (BitVec.ofInt IntKind.i64.bits (n : Int) &&& ~~~BitVec.ofInt IntKind.i64.bits 3).toNat ≤ n := by
    rw [BitVec.toNat_and, ofInt_toNat (by omega)]
    exact Nat.and_le_left
  rw [wr_in ⟨by omega, by omega⟩] at e
  have e0 : (BitVec.ofInt IntKind.i64.bits (n : Int) &&& ~~~BitVec.ofInt IntKind.i64.bits 3).toNat = 0 := by omega
  have e1 : BitVec.ofInt IntKind.i64.bits (n : Int) &&& ~~~BitVec.ofInt IntKind.i64.bits 3 = 0#IntKind.i64.bits := BitVec.eq_of_toNat_eq (by simpa using e0)
  have e2 : BitVec.ofInt IntKind.i64.bits (n : Int) = BitVec.ofInt IntKind.i64.bits (n : Int) &&& BitVec.ofInt IntKind.i64.bits 3 := by
    apply BitVec.eq_of_getLsbD_eq
    intro i hi
    have := congrArg (fun v => v.getLsbD i) e1
    simp only [BitVec.getLsbD_and, BitVec.getLsbD_not, hi, decide_true, Bool.true_and, BitVec.getLsbD_zero] at this
    rw [BitVec.getLsbD_and]
    revert this
    generalize (BitVec.ofInt IntKind.i64.bits (n : Int)).getLsbD i = p
    generalize (BitVec.ofInt IntKind.i64.bits 3).getLsbD i = q
    cases p <;> cases q <;> simp
  have e3 := congrArg BitVec.toNat e2
  rw [BitVec.toNat_and, ofInt_toNat (by omega)] at e3
  have e4 : (BitVec.ofInt IntKind.i64.bits 3).toNat = 3 := rfl
  rw [e4] at e3
  have := @Nat.and_le_right n 3
  omega

theorem errF_eq (a : Int) : errF a = if a = 0 then 10 else if a / 4 < 1 then 1 else if wr (a / 4 - 1) / 1048576 > 68719476735 then 1 else 0 := by
  unfold errF
  rw [sr2, sr20]
  simp only [cond_eq_ite, beq_iff_eq, decide_eq_true_eq]

theorem err_small {a : Int} (h : a < 4) : (errF a == 0) = false := by
  rw [errF_eq]
  by_cases h1 : a = 0
  · simp [h1]
  · have : a / 4 < 1 := by omega
    simp [h1, this]

theorem bare_iff {a : Int} (h : In a) : (bareF a != 0) = (errF a == 0) := by
  unfold bareF
  cases he : (errF a == 0) with
  | false => rfl
  | true =>
    have : ¬ a < 4 := fun q => by rw [err_small q] at he; simp at he
    have := bclr_ne (a := a) (by omega) h.2
    simpa using this

theorem same_self (a : Int) : sameF a a = (bareF a != 0) := by simp [sameF]

theorem with_bad {a : Int} (m f : Bool) (h : (errF a == 0) = false) : withF a m f = 0 := by simp [withF, h]
end Go.AM.L01
