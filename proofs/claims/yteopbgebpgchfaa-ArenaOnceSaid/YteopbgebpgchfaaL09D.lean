/- DERIVED. NO CLAIM IN IT. The calls on an arena, by the program and by the document: both come to the same. -/
import Derived.Test.YteopbgebpgchfaaL09C
set_option linter.unusedVariables false
set_option linter.unusedSimpArgs false
namespace Go.AM.L09
open Go.RowKit Go.Proofs Go.IntWalk

def res3 (r : A × H × Int) : DV := .tup [.dat aT r.1, .dat hT r.2.1, .dat I r.2.2]
def res2 (r : A × Int) : DV := .tup [.dat aT r.1, .dat I r.2]

theorem sm_split {a : A} (h : smB a = true) : limit 8 (a.1.length : Int) = true ∧ limit 8 (a.2.1.length : Int) = true ∧ limit 8 (a.2.2.length : Int) = true := by
  simp only [smB, Bool.and_eq_true] at h
  exact ⟨h.1.1, h.1.2, h.2⟩
theorem bne_not (x y : Int) : (x != y) = !(x == y) := rfl

theorem takeE (K : KT) (a : A) (t s : Int) (h : smB a = true) : take_e K a t s = some (res3 (takeF a t s), []) := by
  obtain ⟨l1, l2, l3⟩ := sm_split h
  unfold take_e
  simp only [l1, l2, l3, cond_true]
  rw [odd_split]
  cases ho : oddB a t s with
  | true => simp only [takeF, ho, cond_true]; rfl
  | false =>
    obtain ⟨_, _, _, _, _, q⟩ := odd_ok ho
    have hw := ver_wr q
    simp only [takeF, ho, cond_false, q.i1, q.i2, q.i3, ins_set, rd_set q.i2, List.set_set, cond_true, bne_not]
    unfold stA veA at *
    cases (rd (zel I) a.1 s == 0) with
    | false => rfl
    | true =>
      cases (rd (zel I) a.2.1 s == 68719476735) with
      | true => rfl
      | false => simp only [cond_false, cond_true, Bool.not_true, hw]; rfl

theorem publishE (K : KT) (a : A) (t : Int) (g : H) (h : smB a = true) : publish_e K a t g = some (res2 (pubF a t g), []) := by
  obtain ⟨l1, l2, l3⟩ := sm_split h
  unfold publish_e
  simp only [l1, l2, l3, cond_true]
  rw [odd_split]
  cases ho : oddB a t g.1 with
  | true => simp only [pubF, ho, cond_true]; rfl
  | false =>
    obtain ⟨_, _, _, _, _, q⟩ := odd_ok ho
    simp only [pubF, ho, cond_false, q.i1, q.i2, q.i3, ins_set, List.set_set, cond_true, bne_not]
    unfold stA veA owA at *
    cases (rd (zel I) a.2.1 g.1 == g.2.1) <;> cases (rd (zel I) a.1 g.1 == 1) <;> cases (rd (zel I) a.2.2 g.1 == t) <;> rfl

theorem retireE (K : KT) (a : A) (g : H) (h : smB a = true) : retire_e K a g = some (res2 (retF a g), []) := by
  obtain ⟨l1, l2, l3⟩ := sm_split h
  unfold retire_e
  simp only [l1, l2, l3, cond_true]
  have := odd_split (a := a) (t := 0) (s := g.1) (α := DV × List Blk)
  simp only [show decide ((0 : Int) ≥ 0) = true from rfl, show decide ((0 : Int) < 64) = true from rfl, Bool.not_true, cond_true, cond_false] at this
  rw [this]
  cases ho : oddB a 0 g.1 with
  | true => simp only [retF, ho, cond_true]; rfl
  | false =>
    obtain ⟨_, _, _, _, _, q⟩ := odd_ok ho
    simp only [retF, ho, cond_false, q.i1, q.i2, q.i3, ins_set, List.set_set, cond_true, bne_not]
    unfold stA veA at *
    cases (rd (zel I) a.2.1 g.1 == g.2.1) <;> cases (rd (zel I) a.1 g.1 == 2) <;> rfl

theorem backE (K : KT) (a : A) (g : H) (h : smB a = true) : back_e K a g = some (res2 (backF a g), []) := by
  obtain ⟨l1, l2, l3⟩ := sm_split h
  unfold back_e
  simp only [l1, l2, l3, cond_true]
  have := odd_split (a := a) (t := 0) (s := g.1) (α := DV × List Blk)
  simp only [show decide ((0 : Int) ≥ 0) = true from rfl, show decide ((0 : Int) < 64) = true from rfl, Bool.not_true, cond_true, cond_false] at this
  rw [this]
  cases ho : oddB a 0 g.1 with
  | true => simp only [backF, ho, cond_true]; rfl
  | false =>
    obtain ⟨_, _, _, _, _, q⟩ := odd_ok ho
    simp only [backF, ho, cond_false, q.i1, q.i2, q.i3, ins_set, List.set_set, cond_true, bne_not]
    unfold stA veA at *
    cases (rd (zel I) a.2.1 g.1 == g.2.1) <;> cases (rd (zel I) a.1 g.1 == 3) <;> cases (rd (zel I) a.1 g.1 == 1) <;> rfl

theorem checkE (K : KT) (a : A) (t : Int) (g : H) (h : smB a = true) : check_e K a t g = some (.dat I (chkF a t g), []) := by
  obtain ⟨l1, l2, l3⟩ := sm_split h
  unfold check_e
  simp only [l1, l2, l3, cond_true]
  rw [odd_split]
  cases ho : oddB a t g.1 with
  | true => simp only [chkF, ho, cond_true]
  | false =>
    obtain ⟨_, _, _, _, _, q⟩ := odd_ok ho
    simp only [chkF, ho, cond_false, q.i1, q.i2, q.i3, ins_set, List.set_set, cond_true, bne_not]
    unfold stA veA owA at *
    cases (rd (zel I) a.2.1 g.1 == g.2.1) with
    | false => rfl
    | true =>
      cases (rd (zel I) a.1 g.1 == 0) with
      | true => rfl
      | false =>
        cases (rd (zel I) a.1 g.1 == 1) with
        | false => rfl
        | true => cases (rd (zel I) a.2.2 g.1 == t) <;> rfl

/-! ### The document's functions -/
theorem rtakeE (K : KT) (a : A) (t s : Int) (h : smB a = true) : rtake_e K a t s = some (res3 (takeF a t s), []) := by
  obtain ⟨l1, l2, l3⟩ := sm_split h
  unfold rtake_e
  simp only [l1, l2, l3, Bool.and_true, cond_true]
  rw [odd_split]
  cases ho : oddB a t s with
  | true => simp only [takeF, ho, cond_true]; rfl
  | false =>
    obtain ⟨_, _, _, _, _, q⟩ := odd_ok ho
    have hw := ver_wr q
    simp only [takeF, ho, cond_false, q.i1, q.i2, q.i3, ins_set, rd_set q.i2, List.set_set, cond_true, bne_not]
    unfold stA veA at *
    cases (rd (zel I) a.1 s == 0) with
    | false => rfl
    | true =>
      cases (rd (zel I) a.2.1 s == 68719476735) with
      | true => rfl
      | false => simp only [cond_false, cond_true, Bool.not_true, hw]; rfl

theorem rpublishE (K : KT) (a : A) (t : Int) (g : H) (h : smB a = true) : rpublish_e K a t g = some (res2 (pubF a t g), []) := by
  obtain ⟨l1, l2, l3⟩ := sm_split h
  unfold rpublish_e
  simp only [l1, l2, l3, Bool.and_true, cond_true]
  rw [odd_split]
  cases ho : oddB a t g.1 with
  | true => simp only [pubF, ho, cond_true]; rfl
  | false =>
    obtain ⟨_, _, _, _, _, q⟩ := odd_ok ho
    simp only [pubF, ho, cond_false, q.i1, q.i2, q.i3, ins_set, List.set_set, cond_true, bne_not]
    unfold stA veA owA at *
    cases (rd (zel I) a.2.1 g.1 == g.2.1) <;> cases (rd (zel I) a.1 g.1 == 1) <;> cases (rd (zel I) a.2.2 g.1 == t) <;> rfl

theorem odd0_split {a : A} {s : Int} {α : Type} (B X : Option α) : (bif !rightB a then B else bif decide (s < 0) then B else bif decide (s ≥ (a.1.length : Int)) then B else X) = bif oddB a 0 s then B else X := by
  have := odd_split (a := a) (t := 0) (s := s) B X
  simpa only [show decide ((0 : Int) ≥ 0) = true from rfl, show decide ((0 : Int) < 64) = true from rfl, Bool.not_true, cond_true, cond_false] using this

theorem rretireE (K : KT) (a : A) (g : H) (h : smB a = true) : rretire_e K a g = some (res2 (retF a g), []) := by
  obtain ⟨l1, l2, l3⟩ := sm_split h
  unfold rretire_e
  simp only [l1, l2, l3, Bool.and_true, cond_true]
  rw [odd0_split]
  cases ho : oddB a 0 g.1 with
  | true => simp only [retF, ho, cond_true]; rfl
  | false =>
    obtain ⟨_, _, _, _, _, q⟩ := odd_ok ho
    simp only [retF, ho, cond_false, q.i1, q.i2, q.i3, ins_set, List.set_set, cond_true, bne_not]
    unfold stA veA at *
    cases (rd (zel I) a.2.1 g.1 == g.2.1) <;> cases (rd (zel I) a.1 g.1 == 2) <;> rfl

theorem rbackE (K : KT) (a : A) (g : H) (h : smB a = true) : rback_e K a g = some (res2 (backF a g), []) := by
  obtain ⟨l1, l2, l3⟩ := sm_split h
  unfold rback_e
  simp only [l1, l2, l3, Bool.and_true, cond_true]
  rw [odd0_split]
  cases ho : oddB a 0 g.1 with
  | true => simp only [backF, ho, cond_true]; rfl
  | false =>
    obtain ⟨_, _, _, _, _, q⟩ := odd_ok ho
    simp only [backF, ho, cond_false, q.i1, q.i2, q.i3, ins_set, List.set_set, cond_true, bne_not]
    unfold stA veA at *
    cases (rd (zel I) a.2.1 g.1 == g.2.1) <;> cases (rd (zel I) a.1 g.1 == 3) <;> cases (rd (zel I) a.1 g.1 == 1) <;> rfl

/-! ### Its Right -/
theorem wr_small {i : Int} (h0 : 0 ≤ i) (h1 : i ≤ 1000000) : wr (i + 1) = i + 1 := wr_in ⟨by omega, by omega⟩
theorem rrightLoop (a : A) (hy : a.2.1.length = a.1.length) (hz : a.2.2.length = a.1.length) (hm : a.1.length ≤ 1000) : ∀ (l1 l2 l3 : List Int) (i : Nat), a.1.drop i = l1 → a.2.1.drop i = l2 → a.2.2.drop i = l3 →
    Good C0 (finF Try.prog [some .bool]) (headS Try.prog 42 5 [(4, .dat I (i : Int)), (1, .ptr 0 0), (3, .dat I (a.1.length : Int))]) [] [.cells 26 [.dat L a.1, .dat L a.2.1, .dat L a.2.2]] (boo (slotsB l1 l2 l3))
  | [], l2, l3, i, h1, h2, h3 => good_step ok0 (T := cuts42) (fuel := 1000) (n := 40) (by
      refine (rrightL_t _ _ _ _).trans ?_
      have : ¬ i < a.1.length := by
        have := congrArg List.length h1
        simp at this; omega
      unfold rrightL_e
      rw [decide_eq_false (by omega)]
      simp [slotsB, boo])
  | s :: r1, l2, l3, i, h1, h2, h3 => by
    obtain ⟨a1, a2, a3, a4⟩ := rd_drop h1
    obtain ⟨v, r2, rfl⟩ : ∃ v r2, l2 = v :: r2 := by
      cases l2 with
      | nil => have := congrArg List.length h2; simp at this; omega
      | cons v r2 => exact ⟨v, r2, rfl⟩
    obtain ⟨o, r3, rfl⟩ : ∃ o r3, l3 = o :: r3 := by
      cases l3 with
      | nil => have := congrArg List.length h3; simp at this; omega
      | cons v r2 => exact ⟨v, r2, rfl⟩
    obtain ⟨b1, b2, b3, b4⟩ := rd_drop h2
    obtain ⟨c1, c2, c3, c4⟩ := rd_drop h3
    have ih := rrightLoop a hy hz hm r1 r2 r3 (i + 1) a4 b4 c4
    refine good_step ok0 (T := cuts42) (fuel := 1000) (n := 40) ((rrightL_t _ _ _ _).trans ?_)
    unfold rrightL_e
    have hi : wr ((i : Int) + 1) = ((i + 1 : Nat) : Int) := by rw [wr_small (by omega) (by omega)]; omega
    simp only [decide_eq_true (show (i : Int) < (a.1.length : Int) by omega), a1, b1, c1, a2, b2, c2, hi, cond_true]
    have good : slotB s v o = true → hold C0 (finF Try.prog [some .bool]) (boo (slotsB (s :: r1) (v :: r2) (o :: r3))) (headS Try.prog 42 5 [(4, .dat I ((i + 1 : Nat) : Int)), (1, .ptr 0 0), (3, .dat I (a.1.length : Int))]) [] [.cells 26 [.dat L a.1, .dat L a.2.1, .dat L a.2.2]] = some (boo (slotsB (s :: r1) (v :: r2) (o :: r3))) := fun h => by
      have e : slotsB (s :: r1) (v :: r2) (o :: r3) = slotsB r1 r2 r3 := by simp [slotsB, h]
      rw [e]
      exact hold_of ih
    have bad : slotB s v o = false → some (DV.dat Ty.bool false, ([] : List Blk)) = some (boo (slotsB (s :: r1) (v :: r2) (o :: r3))) := fun h => by
      have e : slotsB (s :: r1) (v :: r2) (o :: r3) = false := by simp [slotsB, h]
      rw [e]; rfl
    by_cases v0 : v < 0
    · rw [decide_eq_true v0]; exact bad (by simp [slotB, show ¬ 0 ≤ v by omega])
    rw [decide_eq_false v0]
    by_cases v1 : v > 68719476735
    · rw [decide_eq_true v1]; exact bad (by simp [slotB, show ¬ v ≤ 68719476735 by omega])
    rw [decide_eq_false v1]
    have hv : slotB s v o = (bif s == 1 then decide (0 ≤ o) && decide (o < 64) else (s == 0 || s == 2 || s == 3) && o == -1) := by
      simp [slotB, show 0 ≤ v by omega, show v ≤ 68719476735 by omega]
    by_cases s0 : s < 0
    · rw [decide_eq_true s0]
      exact bad (by
        rw [hv, show (s == 1) = false from by rw [beq_eq_false_iff_ne]; omega, show (s == 0) = false from by rw [beq_eq_false_iff_ne]; omega, show (s == 2) = false from by rw [beq_eq_false_iff_ne]; omega, show (s == 3) = false from by rw [beq_eq_false_iff_ne]; omega]; rfl)
    rw [decide_eq_false s0]
    by_cases s3 : s > 3
    · rw [decide_eq_true s3]
      exact bad (by
        rw [hv, show (s == 1) = false from by rw [beq_eq_false_iff_ne]; omega, show (s == 0) = false from by rw [beq_eq_false_iff_ne]; omega, show (s == 2) = false from by rw [beq_eq_false_iff_ne]; omega, show (s == 3) = false from by rw [beq_eq_false_iff_ne]; omega]; rfl)
    rw [decide_eq_false s3]
    by_cases s1 : s = 1
    · subst s1
      by_cases o0 : o ≥ 0
      · by_cases o1 : o < 64
        · rw [decide_eq_true o0, decide_eq_true o1]
          exact good (by rw [hv]; simp [o1, show 0 ≤ o from o0])
        · rw [decide_eq_true o0, decide_eq_false o1]
          exact bad (by rw [hv]; simp [o1])
      · rw [decide_eq_false o0]
        exact bad (by rw [hv]; simp [show ¬ 0 ≤ o from o0])
    · have n1 : (s == 1) = false := by rw [beq_eq_false_iff_ne]; exact s1
      have m1 : (s != 1) = true := by rw [bne_iff_ne]; exact s1
      have hs : (s == 0 || s == 2 || s == 3) = true := by
        have : s = 0 ∨ s = 2 ∨ s = 3 := by omega
        rcases this with h | h | h <;> subst h <;> rfl
      rw [n1, m1]
      rw [n1, hs] at hv
      by_cases ho : o = -1
      · subst ho; exact good hv
      · have : (o != -1) = true := by rw [bne_iff_ne]; exact ho
        rw [this]
        exact bad (by rw [hv]; simp [ho])

theorem rrightC : Contract Try.prog 42 rightS := contract_fnG (C := C0) ok0 Try.func42 rfl (rs := [some .bool]) rfl rfl fun ⟨⟨xs, ys, zs⟩, _⟩ _ => good_step ok0 (T := cuts42) (fuel := 1000) (n := 40) (by
  refine (rright_t _ _).trans ?_
  unfold rright_e
  show _ = some (boo (rightB (xs, ys, zs)))
  unfold rightB
  by_cases h1 : xs.length < 1
  · rw [decide_eq_true (by simp only; omega), decide_eq_false (p := 1 ≤ xs.length) (by omega)]; rfl
  rw [decide_eq_false (by simp only; omega), decide_eq_true (p := 1 ≤ xs.length) (by omega)]
  by_cases h2 : xs.length > 1000
  · rw [decide_eq_true (by simp only; omega), decide_eq_false (p := xs.length ≤ 1000) (by omega)]; rfl
  rw [decide_eq_false (by simp only; omega), decide_eq_true (p := xs.length ≤ 1000) (by omega)]
  by_cases h3 : ys.length = xs.length
  case neg =>
    have : (((ys.length : Nat) : Int) != (xs.length : Int)) = true := by rw [bne_iff_ne]; omega
    simp only [cond_false]
    rw [this, decide_eq_false h3]; rfl
  by_cases h4 : zs.length = xs.length
  case neg =>
    have e3 : (((ys.length : Nat) : Int) != (xs.length : Int)) = false := by rw [h3]; simp
    have : (((zs.length : Nat) : Int) != (xs.length : Int)) = true := by rw [bne_iff_ne]; omega
    simp only [cond_false]
    rw [e3, this, decide_eq_true h3, decide_eq_false h4]; rfl
  have e3 : (((ys.length : Nat) : Int) != (xs.length : Int)) = false := by rw [h3]; simp
  have e4 : (((zs.length : Nat) : Int) != (xs.length : Int)) = false := by rw [h4]; simp
  simp only [cond_false]
  rw [e3, e4, decide_eq_true h3, decide_eq_true h4]
  simp only [cond_false, Bool.true_and]
  exact hold_of (rrightLoop (xs, ys, zs) h3 h4 (by simp only; omega) xs ys zs 0 rfl rfl rfl))

noncomputable def CR : Ctx := C1.also 42 rightS
theorem okR : CR.OK := ok1.also rrightC Try.func42 rfl
def takeS : Spec := fnSpec [aT, I, I] (fun a => smB a.1) (fun a => res3 (takeF a.1 a.2.1 a.2.2.1))
def pubS : Spec := fnSpec [aT, I, hT] (fun a => smB a.1) (fun a => res2 (pubF a.1 a.2.1 a.2.2.1))
def retS : Spec := fnSpec [aT, hT] (fun a => smB a.1) (fun a => res2 (retF a.1 a.2.1))
def backS : Spec := fnSpec [aT, hT] (fun a => smB a.1) (fun a => res2 (backF a.1 a.2.1))
def chkS : Spec := fnSpec [aT, I, hT] (fun a => smB a.1) (fun a => .dat I (chkF a.1 a.2.1 a.2.2.1))
theorem takeC : Contract Try.prog 10 takeS := contract_fnG (C := C1) ok1 Try.func10 rfl (rs := [some aT, none, none]) rfl rfl fun ⟨a, t, s, _⟩ hp => good_step ok1 (T := []) (fuel := 1000) (n := 40) ((take_t _ a t s).trans (takeE _ a t s hp))
theorem pubC : Contract Try.prog 11 pubS := contract_fnG (C := C1) ok1 Try.func11 rfl (rs := [some aT, none]) rfl rfl fun ⟨a, t, s, _⟩ hp => good_step ok1 (T := []) (fuel := 1000) (n := 40) ((publish_t _ a t s).trans (publishE _ a t s hp))
theorem retC : Contract Try.prog 12 retS := contract_fnG (C := C1) ok1 Try.func12 rfl (rs := [some aT, none]) rfl rfl fun ⟨a, s, _⟩ hp => good_step ok1 (T := []) (fuel := 1000) (n := 40) ((retire_t _ a s).trans (retireE _ a s hp))
theorem backC : Contract Try.prog 13 backS := contract_fnG (C := C1) ok1 Try.func13 rfl (rs := [some aT, none]) rfl rfl fun ⟨a, s, _⟩ hp => good_step ok1 (T := []) (fuel := 1000) (n := 40) ((back_t _ a s).trans (backE _ a s hp))
theorem chkC : Contract Try.prog 9 chkS := contract_fnG (C := C1) ok1 Try.func9 rfl (rs := [some I]) rfl rfl fun ⟨a, t, s, _⟩ hp => good_step ok1 (T := []) (fuel := 1000) (n := 40) ((check_t _ a t s).trans (checkE _ a t s hp))
theorem rtakeC : Contract Try.prog 17 takeS := contract_fnG (C := CR) okR Try.func17 rfl (rs := [some aT, none, none]) rfl rfl fun ⟨a, t, s, _⟩ hp => good_step okR (T := []) (fuel := 1000) (n := 40) ((rtake_t _ a t s).trans (rtakeE _ a t s hp))
theorem rpubC : Contract Try.prog 18 pubS := contract_fnG (C := CR) okR Try.func18 rfl (rs := [some aT, none]) rfl rfl fun ⟨a, t, s, _⟩ hp => good_step okR (T := []) (fuel := 1000) (n := 40) ((rpublish_t _ a t s).trans (rpublishE _ a t s hp))
theorem rretC : Contract Try.prog 19 retS := contract_fnG (C := CR) okR Try.func19 rfl (rs := [some aT, none]) rfl rfl fun ⟨a, s, _⟩ hp => good_step okR (T := []) (fuel := 1000) (n := 40) ((rretire_t _ a s).trans (rretireE _ a s hp))
theorem rbackC : Contract Try.prog 20 backS := contract_fnG (C := CR) okR Try.func20 rfl (rs := [some aT, none]) rfl rfl fun ⟨a, s, _⟩ hp => good_step okR (T := []) (fuel := 1000) (n := 40) ((rback_t _ a s).trans (rbackE _ a s hp))
end Go.AM.L09
