/- DERIVED. NO CLAIM IN IT. What the calls on an arena come to. -/
import Derived.Test.YteopbgebpgchfaaL09B
set_option linter.unusedVariables false
set_option linter.unusedSimpArgs false
namespace Go.AM.L09
open Go.RowKit Go.Proofs Go.IntWalk

def Z4 : H := (0, 0, false, false)
def smB (a : A) : Bool := limit 8 (a.1.length : Int) && limit 8 (a.2.1.length : Int) && limit 8 (a.2.2.length : Int)
def oddB (a : A) (t s : Int) : Bool := !rightB a || !(decide (t ≥ 0) && decide (t < 64)) || decide (s < 0) || decide (s ≥ (a.1.length : Int))
def stA (a : A) (s : Int) : Int := rd (zel I) a.1 s
def veA (a : A) (s : Int) : Int := rd (zel I) a.2.1 s
def owA (a : A) (s : Int) : Int := rd (zel I) a.2.2 s
def setA (a : A) (s st v o : Int) : A := (a.1.set s.toNat st, a.2.1.set s.toNat v, a.2.2.set s.toNat o)
def takeF (a : A) (t s : Int) : A × H × Int :=
  bif oddB a t s then (a, Z4, 1) else bif stA a s != 0 then (a, Z4, 40) else bif veA a s == 68719476735 then (a, Z4, 42) else (setA a s 1 (veA a s + 1) t, (s, veA a s + 1, false, false), 0)
def putA (a : A) (s st : Int) : A := (a.1.set s.toNat st, a.2.1, a.2.2.set s.toNat (-1))
def pubF (a : A) (t : Int) (h : H) : A × Int :=
  bif oddB a t h.1 then (a, 1) else bif veA a h.1 != h.2.1 then (a, 42) else bif stA a h.1 != 1 then (a, 40) else bif owA a h.1 != t then (a, 41) else (putA a h.1 2, 0)
def retF (a : A) (h : H) : A × Int :=
  bif oddB a 0 h.1 then (a, 1) else bif veA a h.1 != h.2.1 then (a, 42) else bif stA a h.1 != 2 then (a, 40) else (putA a h.1 3, 0)
def backF (a : A) (h : H) : A × Int :=
  bif oddB a 0 h.1 then (a, 1) else bif veA a h.1 != h.2.1 then (a, 42) else bif stA a h.1 == 3 || stA a h.1 == 1 then (putA a h.1 0, 0) else (a, 40)
def chkF (a : A) (t : Int) (h : H) : Int :=
  bif oddB a t h.1 then 1 else bif veA a h.1 != h.2.1 then 42 else bif stA a h.1 == 0 then 40 else bif stA a h.1 == 1 then bif owA a h.1 != t then 41 else 0 else 0

theorem ins_set {xs : List Int} {k : Nat} {y i : Int} : ins (xs.set k y) i = ins xs i := by simp [ins]
theorem rd_set {xs : List Int} {y s : Int} (h : ins xs s = true) : rd (zel I) (xs.set s.toNat y) s = y := by
  simp only [ins, Bool.and_eq_true, decide_eq_true_eq] at h
  have : s.toNat < xs.length := by omega
  simp [rd, List.getD_eq_getElem?_getD, this]
theorem slots_get : ∀ {l1 l2 l3 : List Int}, slotsB l1 l2 l3 = true → l2.length = l1.length → l3.length = l1.length → ∀ i : Nat, i < l1.length → slotB (l1.getD i 0) (l2.getD i 0) (l3.getD i 0) = true
  | [], _, _, _, _, _, i, h => by simp at h
  | s :: r1, [], _, _, h, _, _, _ => by simp at h
  | s :: r1, v :: r2, [], _, _, h, _, _ => by simp at h
  | s :: r1, v :: r2, o :: r3, h, h2, h3, i, hi => by
    simp only [slotsB, Bool.and_eq_true] at h
    cases i with
    | zero => exact h.1
    | succ i => simpa using slots_get h.2 (by simpa using h2) (by simpa using h3) i (by simpa using hi)

structure OKs (a : A) (s : Int) : Prop where
  i1 : ins a.1 s = true
  i2 : ins a.2.1 s = true
  i3 : ins a.2.2 s = true
  slot : slotB (stA a s) (veA a s) (owA a s) = true

theorem odd_ok {a : A} {t s : Int} (h : oddB a t s = false) : rightB a = true ∧ 0 ≤ t ∧ t < 64 ∧ 0 ≤ s ∧ s < (a.1.length : Int) ∧ OKs a s := by
  simp only [oddB, Bool.or_eq_false_iff, Bool.not_eq_false', Bool.and_eq_true, decide_eq_true_eq, decide_eq_false_iff_not] at h
  obtain ⟨⟨⟨h1, h2, h3⟩, h4⟩, h5⟩ := h
  refine ⟨h1, h2, h3, by omega, by omega, ?_⟩
  simp only [rightB, Bool.and_eq_true, decide_eq_true_eq] at h1
  obtain ⟨⟨⟨⟨_, _⟩, q1⟩, q2⟩, q3⟩ := h1
  have := slots_get q3 q1 q2 s.toNat (by omega)
  refine ⟨by simp [ins]; omega, by simp [ins]; omega, by simp [ins]; omega, this⟩
theorem odd_in {a : A} {t s : Int} (h : OKs a s) (hr : rightB a = true) (h0 : 0 ≤ t) (h1 : t < 64) : oddB a t s = false := by
  have := h.i1
  simp only [ins, Bool.and_eq_true, decide_eq_true_eq] at this
  simp only [oddB, Bool.or_eq_false_iff, Bool.not_eq_false', Bool.and_eq_true, decide_eq_true_eq, decide_eq_false_iff_not]
  exact ⟨⟨⟨hr, h0, h1⟩, by omega⟩, by omega⟩
theorem ver_range {a : A} {s : Int} (h : OKs a s) : 0 ≤ veA a s ∧ veA a s ≤ 68719476735 := by
  have := h.slot
  simp only [slotB, Bool.and_eq_true, decide_eq_true_eq] at this
  omega
theorem ver_wr {a : A} {s : Int} (h : OKs a s) : wr (veA a s + 1) = veA a s + 1 := by
  have := ver_range h
  exact wr_in ⟨by omega, by omega⟩

/-- The cases of a bad argument. -/
theorem odd_split {a : A} {t s : Int} {α : Type} (B X : Option α) : (bif !rightB a then B else bif decide (t ≥ 0) then bif !decide (t < 64) then B else bif decide (s < 0) then B else bif decide (s ≥ (a.1.length : Int)) then B else X else B) = bif oddB a t s then B else X := by
  unfold oddB
  cases rightB a <;> cases decide (t ≥ 0) <;> cases decide (t < 64) <;> cases decide (s < 0) <;> cases decide (s ≥ (a.1.length : Int)) <;> rfl
end Go.AM.L09
