/- DERIVED. NO CLAIM IN IT. Words, by numbers alone. -/
import Derived.Test.YtigfnidgpmfneaaL01Pure
set_option linter.unusedVariables false
set_option linter.unusedSimpArgs false
namespace Go.AM.L01
open Go.RowKit Go.Proofs

theorem err_in {a : Int} (h : In a) : (errF a == 0) = decide (4 ≤ a ∧ a < 288230376151711748) := by
  rw [errF_eq]
  obtain ⟨h1, h2⟩ := h
  by_cases e0 : a = 0
  · subst e0; decide
  by_cases e1 : a / 4 < 1
  · rw [if_neg e0, if_pos e1, decide_eq_false (by omega)]; rfl
  · rw [wr_in ⟨by omega, by omega⟩, if_neg e0, if_neg e1]
    by_cases e2 : (a / 4 - 1) / 1048576 > 68719476735
    · rw [if_pos e2, decide_eq_false (by omega)]; rfl
    · rw [if_neg e2, decide_eq_true (by omega)]; rfl

def good (a : Int) : Prop := 4 ≤ a ∧ a < 288230376151711748
def wordH (a : Int) : H := ((a / 4 - 1) % 1048576, (a / 4 - 1) / 1048576, decide (a % 2 = 1), decide (a / 2 % 2 = 1))

theorem and2 (n : Nat) : (n &&& 2 != 0) = decide (n / 2 % 2 = 1) := by
  have h : n &&& 2 = n % 4 &&& 2 := by
    have h1 : n &&& 2 ≤ 2 := Nat.and_le_right
    have h2 := @Nat.and_mod_two_pow n 2 2
    have h2 : (n &&& 2) % 4 = (n % 4) &&& 2 := h2
    omega
  have e : n / 2 % 2 = n % 4 / 2 := by omega
  rw [h, e]
  have hk : n % 4 < 4 := Nat.mod_lt _ (by decide)
  generalize n % 4 = k at hk
  match k, hk with
  | 0, _ => rfl
  | 1, _ => rfl
  | 2, _ => rfl
  | 3, _ => rfl

theorem and1 (n : Nat) : (n &&& 1 != 0) = decide (n % 2 = 1) := by
  rw [Nat.and_one_is_mod]
  rcases Nat.mod_two_eq_zero_or_one n with h | h <;> rw [h] <;> rfl

theorem natInt_ne (n : Nat) : (((n : Nat) : Int) != 0) = (n != 0) := by
  cases n with
  | zero => rfl
  | succ n => simp [bne]; omega

theorem unpH_val {a : Int} (h : good a) : unpH a = wordH a := by
  obtain ⟨n, rfl⟩ := Int.eq_ofNat_of_zero_le (show 0 ≤ a by have := h.1; omega)
  obtain ⟨h1, h2⟩ := h
  unfold unpH wordH
  rw [sr2, sr20, wr_in ⟨by omega, by omega⟩]
  obtain ⟨k, hk⟩ := Int.eq_ofNat_of_zero_le (show 0 ≤ (n : Int) / 4 - 1 by omega)
  have e1 : band ((n : Int) / 4 - 1) 1048575 = ((n : Int) / 4 - 1) % 1048576 := by
    rw [hk]
    have := band_nat (a := k) (b := 1048575) (by omega) (by decide)
    rw [show (1048575 : Nat) = 2 ^ 20 - 1 from rfl, Nat.and_two_pow_sub_one_eq_mod] at this
    exact this.trans (by omega)
  have e2 : (band (n : Int) 1 != 0) = decide ((n : Int) % 2 = 1) := by
    have := band_nat (a := n) (b := 1) (by omega) (by decide)
    rw [show band (n : Int) 1 = _ from this, natInt_ne, and1]
    exact decide_eq_decide.2 (by omega)
  have e3 : (band (n : Int) 2 != 0) = decide ((n : Int) / 2 % 2 = 1) := by
    have := band_nat (a := n) (b := 2) (by omega) (by decide)
    rw [show band (n : Int) 2 = _ from this, natInt_ne, and2]
    exact decide_eq_decide.2 (by omega)
  rw [e1, e2, e3]

theorem bclr_val {a : Int} (h : good a) : bclr a 3 = a / 4 * 4 := by
  obtain ⟨n, rfl⟩ := Int.eq_ofNat_of_zero_le (show 0 ≤ a by have := h.1; omega)
  obtain ⟨h1, h2⟩ := h
  unfold bclr
  have e : (BitVec.ofInt IntKind.i64.bits (n : Int) &&& ~~~BitVec.ofInt IntKind.i64.bits 3).toNat = n / 4 * 4 := by
    apply Nat.eq_of_testBit_eq
    intro i
    rw [BitVec.toNat_and, Nat.testBit_and, ofInt_toNat (by omega), show n / 4 * 4 = 2 ^ 2 * (n / 2 ^ 2) by omega, Nat.testBit_two_pow_mul, Nat.testBit_div_two_pow]
    by_cases hi : 2 ≤ i
    · rw [decide_eq_true hi, Bool.true_and, show i - 2 + 2 = i by omega]
      by_cases hi2 : i < 64
      · have : (~~~BitVec.ofInt IntKind.i64.bits 3).toNat.testBit i = true := by
          show (~~~BitVec.ofInt 64 3).getLsbD i = true
          rw [BitVec.getLsbD_not, decide_eq_true hi2, Bool.true_and]
          have : (BitVec.ofInt 64 3).getLsbD i = false := by
            show Nat.testBit 3 i = false
            exact Nat.testBit_lt_two_pow (Nat.lt_of_lt_of_le (show 3 < 2 ^ 2 by decide) (Nat.pow_le_pow_right (by decide) hi))
          rw [this]; rfl
        rw [this, Bool.and_true]
      · have : n.testBit i = false := Nat.testBit_lt_two_pow (Nat.lt_of_lt_of_le (show n < 2 ^ 63 by omega) (Nat.pow_le_pow_right (by decide) (by omega)))
        rw [this]; rfl
    · rw [decide_eq_false hi, Bool.false_and]
      have : i = 0 ∨ i = 1 := by omega
      rcases this with rfl | rfl
      · have : (~~~BitVec.ofInt IntKind.i64.bits 3).toNat.testBit 0 = false := by decide
        rw [this, Bool.and_false]
      · have : (~~~BitVec.ofInt IntKind.i64.bits 3).toNat.testBit 1 = false := by decide
        rw [this, Bool.and_false]
  rw [e, wr_in ⟨by omega, by omega⟩]
  omega

theorem err_good {a : Int} (h : good a) : errF a = 0 := by
  have h' : In a := ⟨by have := h.1; omega, by have := h.2; omega⟩
  have := err_in h'
  rw [decide_eq_true (show 4 ≤ a ∧ a < 288230376151711748 from h)] at this
  simpa using this
theorem err_bad {a : Int} (h : In a) (h2 : ¬ good a) : errF a = if a = 0 then 10 else 1 := by
  have e := err_in h
  rw [decide_eq_false (show ¬ (4 ≤ a ∧ a < 288230376151711748) from h2)] at e
  rw [errF_eq] at e ⊢
  split
  · rfl
  · rename_i q
    rw [if_neg q] at e
    split
    · rfl
    · rename_i q2
      rw [if_neg q2] at e
      split
      · rfl
      · rename_i q3
        rw [if_neg q3] at e
        simp at e

theorem unpF_good {a : Int} (h : good a) : unpF a = wordH a := by unfold unpF; rw [err_good h]; exact unpH_val h
theorem unpF_bad {a : Int} (h : In a) (h2 : ¬ good a) : unpF a = (0, 0, false, false) := by
  unfold unpF
  rw [err_bad h h2]
  by_cases e : a = 0
  · rw [if_pos e]; rfl
  · rw [if_neg e]; rfl
theorem bareF_good {a : Int} (h : good a) : bareF a = a / 4 * 4 := by unfold bareF; rw [err_good h]; exact bclr_val h
theorem bareF_bad {a : Int} (h : In a) (h2 : ¬ good a) : bareF a = 0 := by
  unfold bareF
  rw [err_bad h h2]
  by_cases e : a = 0
  · rw [if_pos e]; rfl
  · rw [if_neg e]; rfl
theorem withF_good {a : Int} (h : good a) (m f : Bool) : withF a m f = 4 * (a / 4) + b2 m + 2 * b2 f := by
  unfold withF
  rw [err_good h, sr2]
  exact setF_val (by have := h.1; omega) (by have := h.2; omega) m f
theorem withF_bad {a : Int} (h : In a) (h2 : ¬ good a) (m f : Bool) : withF a m f = 0 := by
  unfold withF
  rw [err_bad h h2]
  by_cases e : a = 0
  · rw [if_pos e]; rfl
  · rw [if_neg e]; rfl
theorem b2_range (x : Bool) : 0 ≤ b2 x ∧ b2 x ≤ 1 := by cases x <;> decide
theorem b2_odd (x : Bool) : decide (b2 x = 1) = x := by cases x <;> rfl
theorem pack_good {h : H} (q : okH h) : good (packF h) := by
  have := b2_range h.2.2.1
  have := b2_range h.2.2.2
  rw [packF_val q]
  obtain ⟨h1, h2, h3, h4⟩ := q
  unfold good
  omega
theorem wordH_pack {h : H} (q : okH h) : wordH (packF h) = h := by
  obtain ⟨s, v, m, f⟩ := h
  rw [packF_val q]
  have e1 := b2_range m
  have e2 := b2_range f
  have e3 := b2_odd m
  have e4 := b2_odd f
  obtain ⟨h1, h2, h3, h4⟩ := q
  simp only at h1 h2 h3 h4
  unfold wordH
  simp only
  refine Prod.ext ?_ (Prod.ext ?_ (Prod.ext ?_ ?_)) <;> simp only
  · omega
  · omega
  · exact Eq.trans (decide_eq_decide.2 (by omega)) e3
  · exact Eq.trans (decide_eq_decide.2 (by omega)) e4
theorem wordH_ok {a : Int} (h : good a) : okH (wordH a) := by
  obtain ⟨h1, h2⟩ := h
  unfold okH wordH
  simp only
  omega
theorem b2_dec (p : Prop) [Decidable p] : b2 (decide p) = if p then 1 else 0 := by unfold b2; by_cases h : p <;> simp [h]
theorem packF_wordH {a : Int} (h : good a) : packF (wordH a) = a := by
  rw [packF_val (wordH_ok h)]
  obtain ⟨h1, h2⟩ := h
  unfold wordH
  simp only [b2_dec]
  split <;> split <;> omega
end Go.AM.L01
