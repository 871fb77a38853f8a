/- DERIVED. NO CLAIM IN IT. Plain facts on words. -/
import Derived.Test.YtigfnidgpmfneaaL01Fns
import Derived.IntWalk
set_option linter.unusedVariables false
set_option linter.unusedSimpArgs false
namespace Go.AM.L01
open Go.RowKit Go.Proofs Go.IntWalk

def In (a : Int) : Prop := -9223372036854775808 ≤ a ∧ a ≤ 9223372036854775807

theorem sr2 (a : Int) : sr 2 a = a / 4 := by
  have : sr 2 a = a.fdiv 4 := rfl
  rw [this, Int.fdiv_eq_ediv_of_nonneg _ (by omega)]

theorem sr20 (a : Int) : sr 20 a = a / 1048576 := by
  have : sr 20 a = a.fdiv 1048576 := rfl
  rw [this, Int.fdiv_eq_ediv_of_nonneg _ (by omega)]

theorem wr_in {a : Int} (h : In a) : wr a = a := i64_in a h
theorem wr_range (a : Int) : In (wr a) := by
  unfold wr In
  rw [i64_left]
  unfold wrap64
  omega

theorem pow63 : (2 ^ 63 : Nat) = 9223372036854775808 := rfl

/-- The bits of a small number that is no less than 0. -/
theorem ofInt_toNat {n : Nat} (h : n < 2 ^ 64) : (BitVec.ofInt IntKind.i64.bits (n : Int)).toNat = n := by
  show (BitVec.ofInt 64 (n : Int)).toNat = n
  simp [BitVec.toNat_ofInt]
  omega

theorem bclr_ne {a : Int} (h : 4 ≤ a) (h2 : a ≤ 9223372036854775807) : bclr a 3 ≠ 0 := by
  obtain ⟨n, rfl⟩ := Int.eq_ofNat_of_zero_le (show 0 ≤ a by omega)
  unfold bclr
  intro e
  have hv : (BitVec.ofInt IntKind.i64.bits (n : Int) &&& ~~~BitVec.ofInt IntKind.i64.bits 3).toNat ≤ n := by
    rw [BitVec.toNat_and, ofInt_toNat (by omega)]
    exact Nat.and_le_left
  rw [wr_in ⟨by omega, by omega⟩] at e
  have e0 : (BitVec.ofInt IntKind.i64.bits (n : Int) &&& ~~~BitVec.ofInt IntKind.i64.bits 3).toNat = 0 := by omega
  have e1 : BitVec.ofInt IntKind.i64.bits (n : Int) &&& ~~~BitVec.ofInt IntKind.i64.bits 3 = 0#IntKind.i64.bits := BitVec.eq_of_toNat_eq (by simpa using e0)
  have e2 : BitVec.ofInt IntKind.i64.bits (n : Int) = BitVec.ofInt IntKind.i64.bits (n : Int) &&& BitVec.ofInt IntKind.i64.bits 3 := by
    apply BitVec.eq_of_getLsbD_eq
    intro i hi
    have := congrArg (fun v => v.getLsbD i) e1
    simp only [BitVec.getLsbD_and, BitVec.getLsbD_not, hi, decide_true, Bool.true_and, BitVec.getLsbD_zero] at this
    rw [BitVec.getLsbD_and]
    revert this
    generalize (BitVec.ofInt IntKind.i64.bits (n : Int)).getLsbD i = p
    generalize (BitVec.ofInt IntKind.i64.bits 3).getLsbD i = q
    cases p <;> cases q <;> simp
  have e3 := congrArg BitVec.toNat e2
  rw [BitVec.toNat_and, ofInt_toNat (by omega)] at e3
  have e4 : (BitVec.ofInt IntKind.i64.bits 3).toNat = 3 := rfl
  rw [e4] at e3
  have := @Nat.and_le_right n 3
  omega

theorem bor_nat {a b : Nat} (ha : a < 2 ^ 63) (hb : b < 2 ^ 63) : bor (a : Int) (b : Int) = ((a ||| b : Nat) : Int) := by
  unfold bor
  rw [BitVec.toNat_or, ofInt_toNat (by omega), ofInt_toNat (by omega)]
  have : a ||| b < 2 ^ 63 := Nat.or_lt_two_pow ha hb
  exact wr_in ⟨by omega, by omega⟩

theorem band_nat {a b : Nat} (ha : a < 2 ^ 63) (hb : b < 2 ^ 63) : band (a : Int) (b : Int) = ((a &&& b : Nat) : Int) := by
  unfold band
  rw [BitVec.toNat_and, ofInt_toNat (by omega), ofInt_toNat (by omega)]
  have : a &&& b ≤ a := Nat.and_le_left
  exact wr_in ⟨by omega, by omega⟩

theorem sl2 (a : Int) : sl 2 a = wr (a * 4) := rfl
theorem sl20 (a : Int) : sl 20 a = wr (a * 1048576) := rfl

theorem or_low (i a b : Nat) (h : b < 2 ^ i) : 2 ^ i * a ||| b = 2 ^ i * a + b := (Nat.two_pow_add_eq_or_of_lt h a).symm

def b2 (x : Bool) : Int := if x then 1 else 0
def okH (h : H) : Prop := 0 ≤ h.1 ∧ h.1 ≤ 1048575 ∧ 0 ≤ h.2.1 ∧ h.2.1 ≤ 68719476735

theorem setF_val {n : Int} (h0 : 0 ≤ n) (h1 : n ≤ 72057594037927936) (m f : Bool) : setF n m f = 4 * n + b2 m + 2 * b2 f := by
  obtain ⟨k, rfl⟩ := Int.eq_ofNat_of_zero_le h0
  have e4 : sl 2 (k : Int) = ((4 * k : Nat) : Int) := by rw [sl2, wr_in ⟨by omega, by omega⟩]; omega
  have o1 : 4 * k ||| 1 = 4 * k + 1 := or_low 2 k 1 (by decide)
  have o2 : 4 * k ||| 2 = 4 * k + 2 := or_low 2 k 2 (by decide)
  have o3 : (4 * k + 1) ||| 2 = 4 * k + 3 := by rw [← o1, Nat.or_assoc]; exact or_low 2 k 3 (by decide)
  unfold setF b2
  rw [e4]
  cases m <;> cases f <;> simp only [cond_true, cond_false]
  · simp
  · have := bor_nat (a := 4 * k) (b := 2) (by omega) (by decide)
    rw [o2] at this
    simp at this ⊢
    omega
  · have := bor_nat (a := 4 * k) (b := 1) (by omega) (by decide)
    rw [o1] at this
    simp at this ⊢
    omega
  · have h1 := bor_nat (a := 4 * k) (b := 1) (by omega) (by decide)
    rw [o1] at h1
    have h2 := bor_nat (a := 4 * k + 1) (b := 2) (by omega) (by decide)
    rw [o3] at h2
    simp at h1 h2 ⊢
    rw [h1, h2]
    omega

theorem packE_ok {h : H} (q : okH h) : packE h = 0 := by
  obtain ⟨h1, h2, h3, h4⟩ := q
  unfold packE
  simp [show ¬ h.1 < 0 by omega, show ¬ h.1 > 1048575 by omega, show ¬ h.2.1 < 0 by omega, show ¬ h.2.1 > 68719476735 by omega]

theorem packF_val {h : H} (q : okH h) : packF h = 4 * (h.2.1 * 1048576 + h.1 + 1) + b2 h.2.2.1 + 2 * b2 h.2.2.2 := by
  unfold packF
  rw [packE_ok q]
  obtain ⟨h1, h2, h3, h4⟩ := q
  obtain ⟨s, hs⟩ := Int.eq_ofNat_of_zero_le h1
  obtain ⟨v, hv⟩ := Int.eq_ofNat_of_zero_le h3
  have e1 : sl 20 h.2.1 = ((1048576 * v : Nat) : Int) := by rw [sl20, hv, wr_in ⟨by omega, by omega⟩]; omega
  have e2 : bor (sl 20 h.2.1) h.1 = h.2.1 * 1048576 + h.1 := by
    rw [e1, hs, bor_nat (by omega) (by omega)]
    have := or_low 20 v s (by omega)
    have p : (2 : Nat) ^ 20 = 1048576 := rfl
    rw [p] at this
    rw [this, hv]
    omega
  simp only [beq_self_eq_true, cond_true, e2]
  rw [wr_in ⟨by omega, by omega⟩, setF_val (by omega) (by omega)]

theorem pickF_range {c n : Int} (hc : In c) (hn : 0 < n) (hn2 : n ≤ 9223372036854775807) : 0 ≤ pickF c n ∧ pickF c n < n := by
  unfold pickF
  obtain ⟨c1, c2⟩ := hc
  by_cases h : c < 0
  · have e : wr (0 - wr (c + 1)) = -(c + 1) := by rw [wr_in (a := c + 1) ⟨by omega, by omega⟩, wr_in ⟨by omega, by omega⟩]; omega
    simp only [h, decide_true, cond_true, e]
    exact ⟨Int.tmod_nonneg _ (by omega), Int.tmod_lt_of_pos _ hn⟩
  · simp only [h, decide_false, cond_false]
    exact ⟨Int.tmod_nonneg _ (by omega), Int.tmod_lt_of_pos _ hn⟩

theorem hand_ok {a b c : Int} (ha : In a) (hb : In b) : okH (handF a b c) := by
  have h1 := pickF_range ha (n := 1048576) (by omega) (by omega)
  have h2 := pickF_range hb (n := 68719476736) (by omega) (by omega)
  unfold okH handF
  simp only
  omega

theorem errF_eq (a : Int) : errF a = if a = 0 then 10 else if a / 4 < 1 then 1 else if wr (a / 4 - 1) / 1048576 > 68719476735 then 1 else 0 := by
  unfold errF
  rw [sr2, sr20]
  simp only [cond_eq_ite, beq_iff_eq, decide_eq_true_eq]

theorem err_small {a : Int} (h : a < 4) : (errF a == 0) = false := by
  rw [errF_eq]
  by_cases h1 : a = 0
  · simp [h1]
  · have : a / 4 < 1 := by omega
    simp [h1, this]

theorem bare_iff {a : Int} (h : In a) : (bareF a != 0) = (errF a == 0) := by
  unfold bareF
  cases he : (errF a == 0) with
  | false => rfl
  | true =>
    have : ¬ a < 4 := fun q => by rw [err_small q] at he; simp at he
    have := bclr_ne (a := a) (by omega) h.2
    simpa using this

theorem same_self (a : Int) : sameF a a = (bareF a != 0) := by simp [sameF]

theorem with_bad {a : Int} (m f : Bool) (h : (errF a == 0) = false) : withF a m f = 0 := by simp [withF, h]
end Go.AM.L01
