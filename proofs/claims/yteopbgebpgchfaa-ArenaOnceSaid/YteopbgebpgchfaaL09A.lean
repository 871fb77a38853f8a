/- DERIVED. NO CLAIM IN IT. Clone, Right. -/
import Derived.Test.YteopbgebpgchfaaL09Gen
import Derived.IntWalk
set_option linter.unusedVariables false
set_option linter.unusedSimpArgs false
namespace Go.AM.L09
open Go.RowKit Go.Proofs Go.IntWalk
abbrev A := List Int × List Int × List Int

/-! ### Clone -/
def cloneS : Spec := ownSpec [L] (fun a => limit 8 (a.1.length : Int)) 3 I (fun a => a.1)
theorem cloneC : Contract Try.prog 44 cloneS := contract_own (C := C0) ok0 Try.func44 rfl rfl fun ⟨xs, _⟩ hp => good_step ok0 (T := []) (fuel := 400) (n := 3) (by
  refine (clone_t xs _).trans ?_
  have hl : limit 8 (0 + (xs.length : Int)) = true := by
    have : limit 8 (xs.length : Int) = true := hp
    unfold limit at this ⊢
    simpa using this
  unfold clone_e
  rw [hl]
  show (bif xs.isEmpty then join (some []) (some xs) else some xs) = some xs
  cases xs with
  | nil => exact join_same _
  | cons x r => rfl)

/-! ### Right -/
def slotB (s v o : Int) : Bool := (bif s == 1 then decide (0 ≤ o) && decide (o < 64) else (s == 0 || s == 2 || s == 3) && o == -1) && decide (0 ≤ v) && decide (v ≤ 68719476735)
def slotsB : List Int → List Int → List Int → Bool
  | s :: ss, v :: vs, o :: os => slotB s v o && slotsB ss vs os
  | _, _, _ => true
def rightB (a : A) : Bool := decide (1 ≤ a.1.length) && decide (a.1.length ≤ 1000) && decide (a.2.1.length = a.1.length) && decide (a.2.2.length = a.1.length) && slotsB a.1 a.2.1 a.2.2

def boo (b : Bool) : DV × List Blk := (.dat .bool b, [])
theorem wr_in {a : Int} (h : -9223372036854775808 ≤ a ∧ a ≤ 9223372036854775807) : wr a = a := i64_in a h

theorem rd_drop {xs : List Int} {i : Nat} {x : Int} {r : List Int} (h : xs.drop i = x :: r) : ins xs (i : Int) = true ∧ rd (zel I) xs (i : Int) = x ∧ i < xs.length ∧ xs.drop (i + 1) = r := by
  have hl : i < xs.length := by
    have := congrArg List.length h
    simp at this; omega
  have h2 := List.drop_eq_getElem_cons hl
  rw [h, List.cons.injEq] at h2
  refine ⟨by simp [ins]; omega, by simp [rd, List.getD_eq_getElem?_getD, hl, ← h2.1], hl, h2.2.symm⟩

theorem rightLoop (xs ys zs : List Int) (hy : ys.length = xs.length) (hz : zs.length = xs.length) (hm : xs.length ≤ 1000) : ∀ (l1 l2 l3 : List Int) (i : Nat), xs.drop i = l1 → ys.drop i = l2 → zs.drop i = l3 →
    Good C0 (finF Try.prog [some .bool]) (headS Try.prog 14 5 [(32, .dat I (i : Int)), (1, .ptr 0 0), (30, .dat L xs), (31, .dat I (xs.length : Int))]) [] [.cells 26 [.dat L xs, .dat L ys, .dat L zs]] (boo (slotsB l1 l2 l3))
  | [], l2, l3, i, h1, h2, h3 => good_step ok0 (T := cutsRight) (fuel := 400) (n := 3) (by
      refine (rightL_t _ _ _ _ _).trans ?_
      have : ¬ i < xs.length := by
        have := congrArg List.length h1
        simp at this; omega
      unfold rightL_e
      rw [decide_eq_false (by omega)]
      simp [slotsB, boo])
  | s :: r1, l2, l3, i, h1, h2, h3 => by
    obtain ⟨a1, a2, a3, a4⟩ := rd_drop h1
    obtain ⟨v, r2, rfl⟩ : ∃ v r2, l2 = v :: r2 := by
      cases l2 with
      | nil => have := congrArg List.length h2; simp at this; omega
      | cons v r2 => exact ⟨v, r2, rfl⟩
    obtain ⟨o, r3, rfl⟩ : ∃ o r3, l3 = o :: r3 := by
      cases l3 with
      | nil => have := congrArg List.length h3; simp at this; omega
      | cons v r2 => exact ⟨v, r2, rfl⟩
    obtain ⟨b1, b2, b3, b4⟩ := rd_drop h2
    obtain ⟨c1, c2, c3, c4⟩ := rd_drop h3
    have ih := rightLoop xs ys zs hy hz hm r1 r2 r3 (i + 1) a4 b4 c4
    refine good_step ok0 (T := cutsRight) (fuel := 400) (n := 3) ((rightL_t _ _ _ _ _).trans ?_)
    unfold rightL_e
    rw [decide_eq_true (by omega), a1, b1, c1, a2, b2, c2, wr_in ⟨by omega, by omega⟩]
    have hi : ((i : Int) + 1) = ((i + 1 : Nat) : Int) := by omega
    rw [hi]
    simp only [cond_true]
    have fin : ∀ b : Bool, (slotB s v o = b) → (b = true → slotsB r1 r2 r3 = slotsB (s :: r1) (v :: r2) (o :: r3)) ∧ (b = false → slotsB (s :: r1) (v :: r2) (o :: r3) = false) := by
      rintro b hb
      simp only [slotsB, hb]
      constructor
      · rintro rfl; simp
      · rintro rfl; simp
    have vOK : ∀ (X : Option (DV × List Blk)), X = hold C0 (finF Try.prog [some .bool]) (boo (slotsB (s :: r1) (v :: r2) (o :: r3))) (headS Try.prog 14 5 [(32, .dat I ((i + 1 : Nat) : Int)), (1, .ptr 0 0), (30, .dat L xs), (31, .dat I (xs.length : Int))]) [] [.cells 26 [.dat L xs, .dat L ys, .dat L zs]] →
        slotB s v o = (decide (0 ≤ v) && decide (v ≤ 68719476735)) →
        (bif decide (v < 0) then some (DV.dat Ty.bool false, []) else bif decide (v > 68719476735) then some (DV.dat Ty.bool false, []) else X) = some (boo (slotsB (s :: r1) (v :: r2) (o :: r3))) := by
      intro X hX hs
      by_cases v0 : v < 0
      · rw [decide_eq_true v0, (fin false (by rw [hs, decide_eq_false (by omega)]; rfl)).2 rfl]; rfl
      · rw [decide_eq_false v0]
        by_cases v1 : v > 68719476735
        · rw [decide_eq_true v1, (fin false (by rw [hs, decide_eq_false (p := v ≤ 68719476735) (by omega), Bool.and_false])).2 rfl]; rfl
        · rw [decide_eq_false v1]
          simp only [cond_false]
          have ht := (fin true (by rw [hs, decide_eq_true (by omega), decide_eq_true (by omega)]; rfl)).1 rfl
          rw [hX, ← ht]
          exact hold_of ih
    have bad : slotB s v o = false → some (DV.dat Ty.bool false, []) = some (boo (slotsB (s :: r1) (v :: r2) (o :: r3))) := fun h => by rw [(fin false h).2 rfl]; rfl
    by_cases s1 : s = 1
    · subst s1
      simp only [beq_self_eq_true, cond_true]
      by_cases o0 : o ≥ 0
      · rw [decide_eq_true o0]
        by_cases o1 : o < 64
        · rw [decide_eq_true o1]
          exact vOK _ rfl (by simp [slotB, o1, show 0 ≤ o from o0])
        · rw [decide_eq_false o1]
          exact bad (by simp [slotB, o1])
      · rw [decide_eq_false o0]
        exact bad (by simp [slotB, show ¬ 0 ≤ o from o0])
    · have n1 : (s == 1) = false := by rw [beq_eq_false_iff_ne]; exact s1
      rw [n1]
      simp only [cond_false]
      have three : ∀ (X : Option (DV × List Blk)), X = hold C0 (finF Try.prog [some .bool]) (boo (slotsB (s :: r1) (v :: r2) (o :: r3))) (headS Try.prog 14 5 [(32, .dat I ((i + 1 : Nat) : Int)), (1, .ptr 0 0), (30, .dat L xs), (31, .dat I (xs.length : Int))]) [] [.cells 26 [.dat L xs, .dat L ys, .dat L zs]] → (s == 0 || s == 2 || s == 3) = true →
          (bif o != -1 then some (DV.dat Ty.bool false, []) else bif decide (v < 0) then some (DV.dat Ty.bool false, []) else bif decide (v > 68719476735) then some (DV.dat Ty.bool false, []) else X) = some (boo (slotsB (s :: r1) (v :: r2) (o :: r3))) := by
        intro X hX hs
        by_cases ho : o = -1
        · subst ho
          exact vOK X hX (by simp [slotB, n1, hs])
        · have : (o != -1) = true := by rw [bne_iff_ne]; exact ho
          rw [this]
          exact bad (by have h2 : (o == -1) = false := by rw [beq_eq_false_iff_ne]; exact ho
                        simp [slotB, n1, h2])
      cases h0 : (s == 0) with
      | true => exact three _ rfl (by simp [h0])
      | false =>
        cases h2 : (s == 2) with
        | true => exact three _ rfl (by simp [h2])
        | false =>
          cases h3 : (s == 3) with
          | true => exact three _ rfl (by simp [h3])
          | false => exact bad (by simp [slotB, n1, h0, h2, h3])

def rightS : Spec := fnSpec [aT] (fun _ => true) (fun a => .dat .bool (rightB a.1))
theorem rightC : Contract Try.prog 14 rightS := contract_fnG (C := C0) ok0 Try.func14 rfl (rs := [some .bool]) rfl rfl fun ⟨⟨xs, ys, zs⟩, _⟩ _ => good_step ok0 (T := cutsRight) (fuel := 400) (n := 3) (by
  refine (right_t _ _).trans ?_
  unfold right_e
  show _ = some (boo (rightB (xs, ys, zs)))
  unfold rightB
  by_cases h1 : xs.length < 1
  · rw [decide_eq_true (by simp only; omega), decide_eq_false (p := 1 ≤ xs.length) (by omega)]; rfl
  rw [decide_eq_false (by simp only; omega), decide_eq_true (p := 1 ≤ xs.length) (by omega)]
  by_cases h2 : xs.length > 1000
  · rw [decide_eq_true (by simp only; omega), decide_eq_false (p := xs.length ≤ 1000) (by omega)]; rfl
  rw [decide_eq_false (by simp only; omega), decide_eq_true (p := xs.length ≤ 1000) (by omega)]
  by_cases h3 : ys.length = xs.length
  case neg =>
    have : (((ys.length : Nat) : Int) != (xs.length : Int)) = true := by rw [bne_iff_ne]; omega
    simp only [cond_false]
    rw [this, decide_eq_false h3]; rfl
  by_cases h4 : zs.length = xs.length
  case neg =>
    have e3 : (((ys.length : Nat) : Int) != (xs.length : Int)) = false := by rw [h3]; simp
    have : (((zs.length : Nat) : Int) != (xs.length : Int)) = true := by rw [bne_iff_ne]; omega
    simp only [cond_false]
    rw [e3, this, decide_eq_true h3, decide_eq_false h4]; rfl
  have e3 : (((ys.length : Nat) : Int) != (xs.length : Int)) = false := by rw [h3]; simp
  have e4 : (((zs.length : Nat) : Int) != (xs.length : Int)) = false := by rw [h4]; simp
  simp only [cond_false]
  rw [e3, e4, decide_eq_true h3, decide_eq_true h4]
  simp only [cond_false, Bool.true_and]
  exact hold_of (rightLoop xs ys zs h3 h4 (by omega) xs ys zs 0 rfl rfl rfl))

noncomputable def C1 : Ctx := (C0.also 44 cloneS).also 14 rightS
theorem ok1 : C1.OK := (ok0.also cloneC Try.func44 rfl).also rightC Try.func14 rfl
end Go.AM.L09
