/- DERIVED. NO CLAIM IN IT. What the functions of this seat compute. -/
import Derived.Test.YteopbgebpgchfaaL09Gen2
import Derived.IntWalk
set_option linter.unusedVariables false
set_option linter.unusedSimpArgs false
namespace Go.AM.L09
open Go.RowKit Go.Proofs Go.IntWalk

/-! ### pick -/
def pickF (c n : Int) : Int := bif decide (c < 0) then (wr (0 - wr (c + 1))).tmod n else c.tmod n
def pickS : Spec := fnSpec [I, I] (fun a => !(a.2.1 == 0)) (fun a => .dat I (pickF a.1 a.2.1))
theorem pickC : Contract Try.prog 8 pickS := contract_fnG (C := C1) ok1 Try.func8 rfl (rs := [none]) rfl rfl fun ⟨c, n, _⟩ hp => good_step ok1 (T := []) (fuel := 400) (n := 3) (by
  refine (pick_t _ _ _).trans ?_
  have hn : (n == 0) = false := by simpa using hp
  unfold pick_e pickF
  rw [hn]
  cases decide (c < 0) <;> rfl)

/-! ### New -/
def rep (n : Nat) : List Int := List.replicate n (-1)
def repS : Spec := ownSpec [L, I] (fun a => a.1 == [-1] && decide (1 ≤ a.2.1) && decide (a.2.1 ≤ 6)) 3 I (fun a => rep a.2.1.toNat)
theorem repT (K : Fr → List Fr → Heap → Option (List Int)) : ∀ n : Nat, n < 6 → bigK C1 [] (finO 3 I) 1000 K 40 (startA Try.prog 33 [.dat L [-1], .dat I ((n : Nat) + 1 : Int)]) [] [] = some (rep (n + 1))
  | 0, _ => by kernel_rfl
  | 1, _ => by kernel_rfl
  | 2, _ => by kernel_rfl
  | 3, _ => by kernel_rfl
  | 4, _ => by kernel_rfl
  | 5, _ => by kernel_rfl
  | n + 6, h => by omega
theorem repG (xs : List Int) (n : Int) (h0 : xs = [-1]) (h1 : 1 ≤ n) (h2 : n ≤ 6) : Good C1 (finO 3 I) (startA Try.prog 33 [.dat L xs, .dat I n]) [] [] (rep n.toNat) := good_step ok1 (T := []) (fuel := 1000) (n := 40) (by
  obtain ⟨k, hk⟩ := Int.eq_ofNat_of_zero_le (show 0 ≤ n - 1 by omega)
  have hn : n = (k : Int) + 1 := by omega
  subst hn
  subst h0
  refine (repT _ k (by omega)).trans ?_
  show some (rep (k + 1)) = some (rep (((k : Int) + 1).toNat))
  congr 2)
theorem repC : Contract Try.prog 33 repS := contract_own (C := C1) ok1 Try.func33 rfl rfl fun ⟨xs, n, _⟩ hp => by
  simp only [Bool.and_eq_true, beq_iff_eq, decide_eq_true_eq] at hp
  exact repG xs n hp.1.1 hp.1.2 hp.2
noncomputable def C2 : Ctx := (C1.also 8 pickS).also 33 repS
theorem ok2 : C2.OK := (ok1.also pickC Try.func8 rfl).also repC Try.func33 rfl

def newF (n : Nat) : A := (List.replicate n 0, List.replicate n 0, List.replicate n (-1))
def newS : Spec := fnSpec [I] (fun a => decide (1 ≤ a.1) && decide (a.1 ≤ 6)) (fun a => .dat aT (newF a.1.toNat))
def nw (n : Nat) : Option (DV × List Blk) := some (.dat aT (newF n), [])
theorem newT (K : KT) : ∀ n : Nat, n < 6 → bigK C2 [] (finF Try.prog [some aT]) 1000 K 40 (startA Try.prog 15 [.dat I ((n : Nat) + 1 : Int)]) [] [] = nw (n + 1)
  | 0, _ => by kernel_rfl
  | 1, _ => by kernel_rfl
  | 2, _ => by kernel_rfl
  | 3, _ => by kernel_rfl
  | 4, _ => by kernel_rfl
  | 5, _ => by kernel_rfl
  | n + 6, h => by omega
theorem rnewT (K : KT) : ∀ n : Nat, n < 6 → bigK C2 [] (finF Try.prog [some aT]) 1000 K 40 (startA Try.prog 16 [.dat I ((n : Nat) + 1 : Int)]) [] [] = nw (n + 1)
  | 0, _ => by kernel_rfl
  | 1, _ => by kernel_rfl
  | 2, _ => by kernel_rfl
  | 3, _ => by kernel_rfl
  | 4, _ => by kernel_rfl
  | 5, _ => by kernel_rfl
  | n + 6, h => by omega
theorem new_arg {n : Int} (h1 : 1 ≤ n) (h2 : n ≤ 6) : ∃ k : Nat, k < 6 ∧ n = (k : Int) + 1 ∧ n.toNat = k + 1 := by
  obtain ⟨k, hk⟩ := Int.eq_ofNat_of_zero_le (show 0 ≤ n - 1 by omega)
  exact ⟨k, by omega, by omega, by omega⟩
theorem newCG (n : Int) (h1 : 1 ≤ n) (h2 : n ≤ 6) : Good C2 (finF Try.prog [some aT]) (startA Try.prog 15 [.dat I n]) [] [] (.dat aT (newF n.toNat), []) := good_step ok2 (T := []) (fuel := 1000) (n := 40) (by
  obtain ⟨k, q1, q2, q3⟩ := new_arg h1 h2
  subst q2
  refine (newT _ k q1).trans ?_
  show nw (k + 1) = nw (((k : Int) + 1).toNat)
  rw [q3])
theorem newC : Contract Try.prog 15 newS := contract_fnG (C := C2) ok2 Try.func15 rfl (rs := [some aT]) rfl rfl fun ⟨n, _⟩ hp => by
  simp only [Bool.and_eq_true, decide_eq_true_eq] at hp
  exact newCG n hp.1 hp.2
theorem rnewCG (n : Int) (h1 : 1 ≤ n) (h2 : n ≤ 6) : Good C2 (finF Try.prog [some aT]) (startA Try.prog 16 [.dat I n]) [] [] (.dat aT (newF n.toNat), []) := good_step ok2 (T := []) (fuel := 1000) (n := 40) (by
  obtain ⟨k, q1, q2, q3⟩ := new_arg h1 h2
  subst q2
  refine (rnewT _ k q1).trans ?_
  show nw (k + 1) = nw (((k : Int) + 1).toNat)
  rw [q3])
theorem rnewC : Contract Try.prog 16 newS := contract_fnG (C := C2) ok2 Try.func16 rfl (rs := [some aT]) rfl rfl fun ⟨n, _⟩ hp => by
  simp only [Bool.and_eq_true, decide_eq_true_eq] at hp
  exact rnewCG n hp.1 hp.2
end Go.AM.L09
