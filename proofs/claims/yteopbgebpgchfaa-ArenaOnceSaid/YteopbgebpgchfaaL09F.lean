/- DERIVED. NO CLAIM IN IT. The raw arena of the statements. -/
import Derived.Test.YteopbgebpgchfaaL09Gen3
import Derived.Test.YteopbgebpgchfaaL09P
set_option linter.unusedVariables false
set_option linter.unusedSimpArgs false
namespace Go.AM.L09
open Go.RowKit Go.Proofs Go.IntWalk

theorem rd_dropG {α : Type} {z : α} {xs : List α} {i : Nat} {x : α} {r : List α} (h : xs.drop i = x :: r) : ins xs (i : Int) = true ∧ rd z xs (i : Int) = x ∧ i < xs.length ∧ xs.drop (i + 1) = r ∧ x ∈ xs := by
  have hl : i < xs.length := by
    have := congrArg List.length h
    simp at this; omega
  have h2 := List.drop_eq_getElem_cons hl
  rw [h, List.cons.injEq] at h2
  refine ⟨by simp [ins]; omega, by simp [rd, List.getD_eq_getElem?_getD, hl, ← h2.1], hl, h2.2.symm, ?_⟩
  rw [h2.1]
  exact List.getElem_mem hl

theorem nz {n : Nat} (h : 1 ≤ n) : (!((n : Int) == 0)) = true := by
  have : ((n : Int) == 0) = false := bF (by omega)
  rw [this]; rfl

theorem arenaLoop (raw : List T3) (hraw : rawB raw = true) : ∀ (l : List T3) (i : Nat) (a : A), raw.drop i = l → i ≤ 40 → Inv a →
    Good C4 (finF Try.prog [some aT]) (headS Try.prog 7 3 (env7 (i : Int) raw)) [] (heapA7 a) (.dat aT ((l.take (40 - i)).foldl stepF a), [])
  | [], i, a, h, hi, ha => good_step ok4 (T := cuts7) (fuel := 1000) (n := 40) (by
      refine (arenaL_t _ _ _ _).trans ?_
      have : ¬ i < raw.length := by
        have := congrArg List.length h
        simp at this; omega
      unfold arenaL_e
      rw [decide_eq_false (by omega)]
      simp only [cond_false, List.take_nil, List.foldl_nil])
  | r :: l, i, a, h, hi, ha => by
    obtain ⟨b1, b2, b3, b4, b5⟩ := rd_dropG (z := zel (.st (.cons I (.cons I I)))) h
    have hr := raw_of hraw b5
    have hk := In.pick ha hr.b
    obtain ⟨t0, t1⟩ := thr hr.c
    by_cases h40 : i < 40
    case neg =>
      refine good_step ok4 (T := cuts7) (fuel := 1000) (n := 40) ((arenaL_t _ _ _ _).trans ?_)
      have : 40 - i = 0 := by omega
      unfold arenaL_e
      rw [decide_eq_true (by omega), decide_eq_false (by omega), this]
      simp only [cond_false, cond_true, List.take_zero, List.foldl_nil]
    have hg := step_good ha hr
    have ih := arenaLoop raw hraw l (i + 1) (stepF a r) b4 (by omega) hg.1
    refine good_step ok4 (T := cuts7) (fuel := 1000) (n := 40) ((arenaL_t _ _ _ _).trans ?_)
    have h2 := take_good ha hk t0 t1
    have hk2 : In (takeF a (pickF r.2.2 3) (pickF r.2.1 a.1.length)).1 (pickF r.2.1 a.1.length) := ⟨hk.lo, by rw [h2.2]; exact hk.hi⟩
    have key : ∀ b, stepF a r = b → hold C4 (finF Try.prog [some aT]) (.dat aT (((r :: l).take (40 - i)).foldl stepF a), []) (headS Try.prog 7 3 (env7 (wr ((i : Int) + 1)) raw)) [] (heapA7 b) = some (.dat aT (((r :: l).take (40 - i)).foldl stepF a), []) := by
      rintro b rfl
      rw [wr_small (by omega) (by omega), show ((i : Int) + 1) = ((i + 1 : Nat) : Int) by omega, show 40 - i = (40 - (i + 1)) + 1 by omega, List.take_succ_cons, List.foldl_cons]
      exact hold_of ih
    unfold arenaL_e
    simp only [decide_eq_true (show (i : Int) < (raw.length : Int) by omega), decide_eq_true (show (i : Int) < 40 by omega), b1, b2, nz ha.lens.1, (ha.ok hk).i2, (h2.1.ok hk2).i2, ha.sm, h2.1.sm, cond_true]
    cases c0 : (pickF r.1 5 == 0)
    case true => exact key _ (by simp only [stepF, c0, cond_true])
    cases c1 : (pickF r.1 5 == 1)
    case true => exact key _ (by simp only [stepF, c0, c1, cond_true, cond_false]; rfl)
    cases c2 : (pickF r.1 5 == 2)
    case true => exact key _ (by simp only [stepF, c0, c1, c2, cond_true, cond_false]; rfl)
    cases c3 : (pickF r.1 5 == 3)
    case true => exact key _ (by simp only [stepF, c0, c1, c2, c3, cond_true, cond_false]; rfl)
    exact key _ (by simp only [stepF, c0, c1, c2, c3, cond_false]; rfl)

theorem arenaC : Contract Try.prog 7 arenaS := contract_fnG (C := C4) ok4 Try.func7 rfl (rs := [some aT]) rfl rfl fun ⟨n, raw, _⟩ hp => by
  simp only [Bool.and_eq_true] at hp
  have hm := many_in hp.1
  refine good_step ok4 (T := cuts7) (fuel := 1000) (n := 40) ((arena0_t _ _ _).trans ?_)
  unfold arena0_e
  simp only [decide_eq_true hm.1, decide_eq_true hm.2, Bool.and_true, cond_true]
  exact hold_of (arenaLoop raw hp.2 raw 0 _ rfl (by omega) (new_inv (by omega) (by omega)))
theorem ok5 : C5.OK := ok4.also arenaC Try.func7 rfl
end Go.AM.L09
