/- DERIVED. NO CLAIM IN IT. What the document's own functions of this seat compute. -/
import Derived.Test.YtigfnidgpmfneaaL01Laws
set_option linter.unusedVariables false
set_option linter.unusedSimpArgs false
namespace Go.AM.L01
open Go.RowKit Go.Proofs
def rSet (n : Int) (m f : Bool) : Int := bif f then bif m then wr (wr (n + 2) + 1) else wr (n + 2) else bif m then wr (n + 1) else n
def rPack (h : H) : Int := bif packE h == 0 then rSet (wr (wr (wr (wr (h.2.1 * 1048576) + h.1) + 1) * 4)) h.2.2.1 h.2.2.2 else 0
def rPackS : Spec := fnSpec [hT] (fun _ => true) (fun a => .tup [.dat I (rPack a.1), .dat I (packE a.1)])
theorem rPackT (k : Nat) (h : H) : big C0 [] (finF Try.prog [none, none]) 400 (k + 5) (startA Try.prog 11 [.dat hT h]) [] [] =
    bif decide (h.1 < 0) then two 0 1 else bif decide (h.1 > 1048575) then two 0 1 else bif decide (h.2.1 < 0) then two 0 1 else bif decide (h.2.1 > 68719476735) then two 0 1 else
      bif h.2.2.2 then bif h.2.2.1 then two (wr (wr (wr (wr (wr (wr (h.2.1 * 1048576) + h.1) + 1) * 4) + 2) + 1)) 0 else two (wr (wr (wr (wr (wr (h.2.1 * 1048576) + h.1) + 1) * 4) + 2)) 0 else
        bif h.2.2.1 then two (wr (wr (wr (wr (wr (h.2.1 * 1048576) + h.1) + 1) * 4) + 1)) 0 else two (wr (wr (wr (wr (h.2.1 * 1048576) + h.1) + 1) * 4)) 0 := by kernel_rfl
theorem rPackC : Contract Try.prog 11 rPackS := contract_fn (C := C0) ok0 Try.func11 rfl (T := []) (fuel := 400) (rs := [none, none]) rfl rfl fun ⟨h, _⟩ _ => ⟨5, by
  refine (rPackT 0 h).trans ?_
  simp only [rPack, packE, rSet]
  cases decide (h.1 < 0) <;> cases decide (h.1 > 1048575) <;> cases decide (h.2.1 < 0) <;> cases decide (h.2.1 > 68719476735) <;> cases h.2.2.1 <;> cases h.2.2.2 <;> rfl⟩

def rE (a : Int) : Int := bif a == 0 then 10 else bif decide (a < 4) then 1 else bif decide (wr ((wr (wr (a.tdiv 4) - 1)).tdiv 1048576) > 68719476735) then 1 else 0
def rH (a : Int) : H := ((wr (wr (a.tdiv 4) - 1)).tmod 1048576, wr ((wr (wr (a.tdiv 4) - 1)).tdiv 1048576), a.tmod 2 == 1, (wr (a.tdiv 2)).tmod 2 == 1)
def rU (a : Int) : H := bif rE a == 0 then rH a else (0, 0, false, false)
def rUS : Spec := fnSpec [I] (fun _ => true) (fun a => .tup [.dat hT (rU a.1), .dat I (rE a.1)])
theorem rUT (k : Nat) (a : Int) : big C0 [] (finF Try.prog [none, none]) 400 (k + 5) (startA Try.prog 14 [.dat I a]) [] [] =
    bif a == 0 then some (.tup [.dat hT ((0, 0, false, false) : H), .dat I (10 : Int)], []) else bif decide (a < 4) then some (.tup [.dat hT ((0, 0, false, false) : H), .dat I (1 : Int)], []) else
      bif decide (wr ((wr (wr (a.tdiv 4) - 1)).tdiv 1048576) > 68719476735) then some (.tup [.dat hT ((0, 0, false, false) : H), .dat I (1 : Int)], []) else some (.tup [.dat hT (rH a), .dat I (0 : Int)], []) := by kernel_rfl
theorem rUC : Contract Try.prog 14 rUS := contract_fn (C := C0) ok0 Try.func14 rfl (T := []) (fuel := 400) (rs := [none, none]) rfl rfl fun ⟨a, _⟩ _ => ⟨5, by
  refine (rUT 0 a).trans ?_
  simp only [rU, rE]
  cases (a == 0) <;> cases decide (a < 4) <;> cases decide (wr ((wr (wr (a.tdiv 4) - 1)).tdiv 1048576) > 68719476735) <;> rfl⟩
def rB (a : Int) : Int := bif rE a == 0 then wr (wr (a.tdiv 4) * 4) else 0
def rBS : Spec := fnSpec [I] (fun _ => true) (fun a => .dat I (rB a.1))
noncomputable def D1 : Ctx := (C0.also 11 rPackS).also 14 rUS
theorem okD1 : D1.OK := (ok0.also rPackC Try.func11 rfl).also rUC Try.func14 rfl
theorem rBT (k : Nat) (a : Int) : big D1 [] (finF Try.prog [none]) 400 (k + 5) (startA Try.prog 18 [.dat I a]) [] [] =
    bif rE a != 0 then some (.dat I (0 : Int), []) else some (.dat I (wr (wr (a.tdiv 4) * 4)), []) := by kernel_rfl
theorem rBC : Contract Try.prog 18 rBS := contract_fn (C := D1) okD1 Try.func18 rfl (T := []) (fuel := 400) (rs := [none]) rfl rfl fun ⟨a, _⟩ _ => ⟨5, by
  refine (rBT 0 a).trans ?_
  simp only [rB, bne]
  cases (rE a == 0) <;> rfl⟩
def rW (a : Int) (m f : Bool) : Int := bif rE a != 0 then 0 else rPack ((rU a).1, (rU a).2.1, m, f)
def rWE (a : Int) (m f : Bool) : Int := bif rE a != 0 then rE a else packE ((rU a).1, (rU a).2.1, m, f)
def rWS : Spec := fnSpec [I, .bool, .bool] (fun _ => true) (fun a => .tup [.dat I (rW a.1 a.2.1 a.2.2.1), .dat I (rWE a.1 a.2.1 a.2.2.1)])
theorem rWT (k : Nat) (a : Int) (m f : Bool) : big D1 [] (finF Try.prog [none, none]) 400 (k + 5) (startA Try.prog 16 [.dat I a, .dat .bool m, .dat .bool f]) [] [] =
    bif rE a != 0 then two 0 (rE a) else two (rPack ((rU a).1, (rU a).2.1, m, f)) (packE ((rU a).1, (rU a).2.1, m, f)) := by kernel_rfl
theorem rWC : Contract Try.prog 16 rWS := contract_fn (C := D1) okD1 Try.func16 rfl (T := []) (fuel := 400) (rs := [none, none]) rfl rfl fun ⟨a, m, f, _⟩ _ => ⟨5, by
  refine (rWT 0 a m f).trans ?_
  simp only [rW, rWE]
  cases (rE a != 0) <;> rfl⟩
def rS (a b : Int) : Bool := bif rE a == 0 then bif rE b == 0 then bif (rU a).1 == (rU b).1 then (rU a).2.1 == (rU b).2.1 else false else false else false
def rSS : Spec := fnSpec [I, I] (fun _ => true) (fun a => .dat .bool (rS a.1 a.2.1))
theorem rST (k : Nat) (a b : Int) : big D1 [] (finF Try.prog [none]) 400 (k + 5) (startA Try.prog 20 [.dat I a, .dat I b]) [] [] =
    bif rE a == 0 then bif rE b == 0 then bif (rU a).1 == (rU b).1 then bo ((rU a).2.1 == (rU b).2.1) else bo false else bo false else bo false := by kernel_rfl
theorem rSC : Contract Try.prog 20 rSS := contract_fn (C := D1) okD1 Try.func20 rfl (T := []) (fuel := 400) (rs := [none]) rfl rfl fun ⟨a, b, _⟩ _ => ⟨5, by
  refine (rST 0 a b).trans ?_
  simp only [rS]
  cases (rE a == 0) <;> cases (rE b == 0) <;> cases ((rU a).1 == (rU b).1) <;> rfl⟩
noncomputable def C4 : Ctx := ((((C3.also 11 rPackS).also 14 rUS).also 18 rBS).also 16 rWS).also 20 rSS
theorem ok4 : C4.OK := ((((ok3.also rPackC Try.func11 rfl).also rUC Try.func14 rfl).also rBC Try.func18 rfl).also rWC Try.func16 rfl).also rSC Try.func20 rfl

/-! ### They are the same -/
theorem rSet_val {n : Int} (h0 : 0 ≤ n) (h1 : n ≤ 288230376151711744) (m f : Bool) : rSet n m f = n + b2 m + 2 * b2 f := by
  unfold rSet b2
  cases m <;> cases f <;> simp only [cond_true, cond_false, Bool.false_eq_true, if_false, if_true]
  · omega
  · rw [wr_in ⟨by omega, by omega⟩]; omega
  · rw [wr_in ⟨by omega, by omega⟩]; omega
  · rw [wr_in (a := n + 2) ⟨by omega, by omega⟩, wr_in ⟨by omega, by omega⟩]; omega
theorem packE_bad {h : H} (q : ¬ okH h) : packE h = 1 := by
  unfold packE
  by_cases h1 : h.1 < 0
  · simp [h1]
  by_cases h2 : h.1 > 1048575
  · simp [h1, h2]
  by_cases h3 : h.2.1 < 0
  · simp [h1, h2, h3]
  by_cases h4 : h.2.1 > 68719476735
  · simp [h1, h2, h3, h4]
  exact absurd ⟨by omega, by omega, by omega, by omega⟩ q
theorem okH_dec (h : H) : okH h ∨ ¬ okH h := by unfold okH; omega
theorem rPack_eq (h : H) : rPack h = packF h := by
  rcases okH_dec h with q | q
  · rw [packF_val q]
    unfold rPack
    rw [packE_ok q]
    obtain ⟨h1, h2, h3, h4⟩ := q
    simp only [beq_self_eq_true, cond_true]
    rw [wr_in (a := h.2.1 * 1048576) ⟨by omega, by omega⟩, wr_in (a := h.2.1 * 1048576 + h.1) ⟨by omega, by omega⟩, wr_in (a := h.2.1 * 1048576 + h.1 + 1) ⟨by omega, by omega⟩, wr_in ⟨by omega, by omega⟩, rSet_val (by omega) (by omega)]
    omega
  · unfold rPack packF
    rw [packE_bad q]; rfl
theorem tdiv_pos {a b : Int} (h : 0 ≤ a) : a.tdiv b = a / b := Int.tdiv_eq_ediv_of_nonneg h
theorem tmod_pos {a b : Int} (h : 0 ≤ a) : a.tmod b = a % b := Int.tmod_eq_emod_of_nonneg h
theorem rE_eq {a : Int} (h : In a) : rE a = errF a := by
  by_cases e0 : a = 0
  · subst e0; rfl
  have b0 : (a == 0) = false := by rw [beq_eq_false_iff_ne]; exact e0
  by_cases e1 : a < 4
  · rw [err_bad h (by unfold good; omega), if_neg e0]
    unfold rE
    rw [b0, decide_eq_true e1]; rfl
  · unfold rE
    obtain ⟨h1, h2⟩ := h
    rw [b0, decide_eq_false e1, tdiv_pos (a := a) (by omega), wr_in (a := a / 4) ⟨by omega, by omega⟩, wr_in (a := a / 4 - 1) ⟨by omega, by omega⟩, tdiv_pos (by omega), wr_in ⟨by omega, by omega⟩]
    rcases good_dec a with g | g
    · rw [err_good g, decide_eq_false (by have := g.2; omega)]; rfl
    · rw [err_bad ⟨h1, h2⟩ g, if_neg e0, decide_eq_true (by unfold good at g; omega)]; rfl
theorem beq_dec (a b : Int) : (a == b) = decide (a = b) := rfl
theorem rU_eq {a : Int} (h : In a) : rU a = unpF a := by
  unfold rU
  rw [rE_eq h]
  rcases good_dec a with g | g
  · rw [unpF_good g, err_good g]
    obtain ⟨g1, g2⟩ := g
    show rH a = _
    unfold rH wordH
    rw [tdiv_pos (a := a) (by omega), tdiv_pos (a := a) (by omega), wr_in (a := a / 4) ⟨by omega, by omega⟩, wr_in (a := a / 4 - 1) ⟨by omega, by omega⟩, tdiv_pos (by omega), tmod_pos (by omega), tmod_pos (by omega), wr_in (a := a / 2) ⟨by omega, by omega⟩, tmod_pos (by omega), wr_in ⟨by omega, by omega⟩]
    rfl
  · rw [unpF_bad h g, err_bad h g]
    by_cases e : a = 0
    · rw [if_pos e]; rfl
    · rw [if_neg e]; rfl
theorem rB_eq {a : Int} (h : In a) : rB a = bareF a := by
  unfold rB
  rw [rE_eq h]
  rcases good_dec a with g | g
  · rw [bareF_good g, err_good g]
    obtain ⟨g1, g2⟩ := g
    show wr (wr (a.tdiv 4) * 4) = _
    rw [tdiv_pos (by omega), wr_in (a := a / 4) ⟨by omega, by omega⟩, wr_in ⟨by omega, by omega⟩]
  · rw [bareF_bad h g, err_bad h g]
    by_cases e : a = 0
    · rw [if_pos e]; rfl
    · rw [if_neg e]; rfl
theorem rW_eq {a : Int} (h : In a) (m f : Bool) : rW a m f = withF a m f := by
  unfold rW
  rw [rE_eq h, rU_eq h]
  rcases good_dec a with g | g
  · rw [withF_good g, err_good g, unpF_good g]
    have q := wordH_ok g
    show rPack _ = _
    rw [rPack_eq, packF_val (h := ((wordH a).1, (wordH a).2.1, m, f)) q]
    obtain ⟨g1, g2⟩ := g
    unfold wordH
    simp only
    omega
  · rw [withF_bad h g, err_bad h g]
    by_cases e : a = 0
    · rw [if_pos e]; rfl
    · rw [if_neg e]; rfl
theorem rWE_eq {a : Int} (h : In a) (m f : Bool) : rWE a m f = errF a := by
  unfold rWE
  rw [rE_eq h, rU_eq h]
  rcases good_dec a with g | g
  · rw [err_good g, unpF_good g]
    exact packE_ok (h := ((wordH a).1, (wordH a).2.1, m, f)) (wordH_ok g)
  · rw [err_bad h g]
    by_cases e : a = 0
    · rw [if_pos e]; rfl
    · rw [if_neg e]; rfl
theorem rS_eq {a b : Int} (ha : In a) (hb : In b) : rS a b = sameF a b := by
  unfold rS
  rw [rE_eq ha, rE_eq hb, rU_eq ha, rU_eq hb]
  rcases good_dec a with g | g
  · rcases good_dec b with g2 | g2
    · rw [err_good g, err_good g2, unpF_good g, unpF_good g2, sameF_good g g2]
      unfold wordH
      obtain ⟨h1, h2⟩ := g
      obtain ⟨h3, h4⟩ := g2
      simp only [beq_self_eq_true, cond_true]
      by_cases e : (a / 4 - 1) % 1048576 = (b / 4 - 1) % 1048576
      · rw [e, beq_self_eq_true, cond_true, beq_dec]
        exact decide_eq_decide.2 (by omega)
      · have : ((a / 4 - 1) % 1048576 == (b / 4 - 1) % 1048576) = false := by rw [beq_eq_false_iff_ne]; exact e
        rw [this, cond_false, decide_eq_false]
        omega
    · have e1 : (errF b == 0) = false := by rw [err_bad hb g2]; by_cases e : b = 0 <;> simp [e]
      have e2 : (bareF a == bareF b) = false := by rw [bareF_bad hb g2, bareF_good g, beq_eq_false_iff_ne]; have := g.1; omega
      unfold sameF
      rw [e1, e2, err_good g]; rfl
  · have e1 : (errF a == 0) = false := by rw [err_bad ha g]; by_cases e : a = 0 <;> simp [e]
    have e2 : (bareF a != 0) = false := by rw [bareF_bad ha g]; rfl
    unfold sameF
    rw [e1, e2]
    cases (bareF a == bareF b) <;> rfl
end Go.AM.L01
