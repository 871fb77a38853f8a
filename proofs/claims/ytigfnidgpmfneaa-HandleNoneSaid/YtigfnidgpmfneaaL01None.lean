/- The statement HandleNone: for every input the law returns true, and the input reads as it did. Conditions: none but the given row's own. -/
import Derived.Test.YtigfnidgpmfneaaRows
import Derived.Test.YtigfnidgpmfneaaL01Pure
import Derived.ProofKit
import Derived.OpenShut
import Derived.Carry
set_option linter.unusedVariables false
set_option linter.unusedSimpArgs false
namespace Go.AM.L01
open Go.RowKit Go.Proofs

def F : Option (DV × List Blk) := some (.dat .bool false, [])
def chk (x : Int) (K : Option (DV × List Blk)) : Option (DV × List Blk) :=
  bif !(errF x == 0) == (bareF x != 0) then F else bif !(errF x == 0) == sameF x x then F else bif errF x != errF x then F else
    bif errF x != 0 then (bif withF x true false != 0 then F else bif decide (x < 4) then (bif errF x == 0 then F else K) else K) else
      bif decide (x < 4) then (bif errF x == 0 then F else K) else K
theorem noneT (k : Nat) (w s : Int) : big C3 [] (finF Try.prog [some .bool]) 1000 (k + 9) (startA Try.prog 7 [.dat I w, .dat I s]) [] [] = chk w (chk (wr (pickF s 9 - 4)) (some (.dat .bool true, []))) := by kernel_rfl

theorem chk_ok {x : Int} (h : In x) (K : Option (DV × List Blk)) : chk x K = K := by
  unfold chk
  rw [same_self, bare_iff h]
  cases he : (errF x == 0) with
  | false =>
    have h0 : (errF x != 0) = true := by simp only [bne, he, Bool.not_false]
    simp [with_bad true false he, h0]
  | true =>
    have hx : ¬ x < 4 := fun q => by rw [err_small q] at he; simp at he
    have h0 : (errF x != 0) = false := by simp only [bne, he, Bool.not_true]
    simp [hx, h0]

theorem nonePure (w s : Int) (hw : In w) : ∃ k, big C3 [] (finF Try.prog [some .bool]) 1000 k (startA Try.prog 7 (datA [I, I] (w, s, ()))) [] [] = some (.dat .bool true, []) := by
  refine ⟨9, (noneT 0 w s).trans ?_⟩
  rw [chk_ok hw, chk_ok (wr_range _)]
end Go.AM.L01

namespace Go.Proofs.Ytigfnidgpmfneaa
open Go.ChangeShapes Go.WideShapes Go.ChangeAt Go.RowKit Go.AM Go.AM.L01

theorem own : ownKnob Try.prog.godebug = none := by kernel_rfl
theorem laidOut : laidOutB Try.prog = true := by kernel_rfl

set_option maxRecDepth 100000 in
theorem none_lifted (os : Os) (started : os.Started) (H : Type) (enc : TypeId × Value → H) :
    ReturnsInHanded {} Try.checked os 7 .any (Rows.handleNoneSpec.pre6 enc Try.prog Try.f7 Rows.handleNoneRow.domain false) (Rows.handleNoneSpec.post enc Try.prog Try.f7 false true false false) := by
  refine returnsInHanded_of_change_sized (C := Try.checked) own started (by kernel_rfl) Try.func7
    (ChangeSpec.witness6 (enc := enc) (C := Try.checked) false ⟨#[], #[.int .i64 0, .int .i64 0], []⟩ 8 (by kernel_rfl) (by kernel_rfl) (by kernel_rfl) (by kernel_rfl)) ?_
  intro W base args ds gs before hval0 hW hcnd hsz0 _
  have hsz : (DataW.weightsEach Try.prog (Try.f7.params.toList ++ Rows.handleNoneSpec.plain.varTypes Try.prog) (ds ++ gs)).all (· ≤ reachBytes) = true := hsz0
  have hval : ∀ (j : Nat) t v, Try.f7.params[j]? = some t → args[j]? = some v → Value.okWide Try.prog W .any base t v := hval0
  have hW' := hW
  obtain ⟨p, q, hA0, hV, rfl, hfz, hnd⟩ := hW
  have hA : DataW.TrodAll enc Try.prog W 0 (fun _ => true) true Try.f7.params.toList args.toList ds p := hA0
  rw [Try.params7] at hA hval hsz
  obtain ⟨v0, vs0, d0, ds0, p0, q0, hargs, rfl, rfl, h0, r0⟩ := trodAll_cons hA
  obtain ⟨v1, vs1, d1, ds1, p1, q1, rfl, rfl, rfl, h1, r1⟩ := trodAll_cons r0
  obtain ⟨rfl, rfl, rfl⟩ := trodAll_nil r1
  obtain rfl : args = #[v0, v1] := by cases args; simp_all
  obtain ⟨rfl, rfl⟩ := trodVars_none hV
  have lt0 : ∀ x ∈ p0, x.block < W.heap.size := by obtain ⟨m, hm⟩ := h0; exact DataW.trod_lt m _ _ _ hm
  have lt1 : ∀ x ∈ p1, x.block < W.heap.size := by obtain ⟨m, hm⟩ := h1; exact DataW.trod_lt m _ _ _ hm
  have light : ∀ (j : Nat) (t : TypeId) (d : DataW H), ([3, 3] ++ Rows.handleNoneSpec.plain.varTypes Try.prog)[j]? = some t → ([d0, d1] ++ [] : List (DataW H))[j]? = some d → Light Try.prog t d := fun j t d ht hd n hn => by
    have := List.all_eq_true.1 hsz n (DataW.weights_mem_each ht hd n hn)
    simpa using this
  obtain ⟨a0, w0, e0⟩ := arg_rel (n := 12) (c := I) (by kernel_rfl) (by kernel_rfl) (hval 0 3 v0 rfl rfl) h0 (light 0 3 d0 rfl rfl)
  obtain ⟨a1, w1, e1⟩ := arg_rel (n := 12) (c := I) (by kernel_rfl) (by kernel_rfl) (hval 1 3 v1 rfl rfl) h1 (light 1 3 d1 rfl rfl)
  clear hA0 hval0 hsz0 hsz
  refine (law_fn ok3 Try.func7 rfl (ts := [I, I]) (T := []) (fuel := 1000) (a0, a1, ()) (vs := #[v0, v1]) (W := W) ?_ (nonePure a0 a1 w0)).mono fun e W' ⟨he, bel⟩ => ?_
  · simp only [datA, VRL]
    exact ⟨_, _, rfl, e0, _, _, rfl, e1, rfl⟩
  subst he
  exact ⟨_, rfl, _, _, _, [], _, [], hW', trodAll_mk1 (shut_bool Try.underlying4 _), trodAll_cons_mk (Below.trod laidOut (by kernel_rfl) (of_decide_eq_true (by kernel_rfl)) h0 bel lt0) (trodAll_cons_mk (Below.trod laidOut (by kernel_rfl) (of_decide_eq_true (by kernel_rfl)) h1 bel lt1) trodAll_mk0), rfl, bel.frame _, fun h => by cases h⟩

theorem handleNone_holds : Rows.HandleNoneSaid :=
  OpenClaim.holds_of_wide 7 Try.f7 rfl rfl rfl rfl rfl rfl rfl ⟨rfl, rfl, rfl, rfl, rfl⟩ rfl rfl rfl rfl rfl (by kernel_rfl) Try.func7 (by kernel_rfl)
    (of_decide_eq_true (by kernel_rfl)) (by unfold Func.isWrapper; first | (rw [if_pos (by decide +kernel)]; kernel_rfl) | (rw [if_neg (by decide +kernel)]; exact ⟨rfl, rfl⟩))
    (fun os started H enc _ => none_lifted os started H enc)
#print axioms handleNone_holds
end Go.Proofs.Ytigfnidgpmfneaa
