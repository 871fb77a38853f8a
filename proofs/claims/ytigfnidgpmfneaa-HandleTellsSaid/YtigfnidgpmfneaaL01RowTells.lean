/- The statement HandleTells: for every input the law returns true, and the input reads as it did. Conditions: none but the given row's own. -/
import Derived.Test.YtigfnidgpmfneaaRows
import Derived.Test.YtigfnidgpmfneaaL01Tells
import Derived.ProofKit
import Derived.OpenShut
import Derived.Carry
set_option linter.unusedVariables false
set_option linter.unusedSimpArgs false
namespace Go.Proofs.Ytigfnidgpmfneaa
open Go.ChangeShapes Go.WideShapes Go.ChangeAt Go.RowKit Go.AM Go.AM.L01

theorem handleTells_own : ownKnob Try.prog.godebug = Option.none := by kernel_rfl
theorem handleTells_laid : laidOutB Try.prog = true := by kernel_rfl

set_option maxRecDepth 100000 in
theorem handleTells_lifted (os : Os) (started : os.Started) (H : Type) (enc : TypeId × Value → H) :
    ReturnsInHanded {} Try.checked os 3 .any (Rows.handleTellsSpec.pre6 enc Try.prog Try.f3 Rows.handleTellsRow.domain false) (Rows.handleTellsSpec.post enc Try.prog Try.f3 false true false false) := by
  refine returnsInHanded_of_change_sized (C := Try.checked) handleTells_own started (by kernel_rfl) Try.func3
    (ChangeSpec.witness6 (enc := enc) (C := Try.checked) false ⟨#[], #[.agg #[.int .i64 0, .int .i64 0, .bool false, .bool false], .int .i64 0, .int .i64 0, .int .i64 0, .int .i64 0, .bool false, .bool false], []⟩ 8 (by kernel_rfl) (by kernel_rfl) (by kernel_rfl) (by kernel_rfl)) ?_
  intro W base args ds gs before hval0 hW hcnd hsz0 _
  have hsz : (DataW.weightsEach Try.prog (Try.f3.params.toList ++ Rows.handleTellsSpec.plain.varTypes Try.prog) (ds ++ gs)).all (· ≤ reachBytes) = true := hsz0
  have hval : ∀ (j : Nat) t v, Try.f3.params[j]? = some t → args[j]? = some v → Value.okWide Try.prog W .any base t v := hval0
  have hW' := hW
  obtain ⟨p, q, hA0, hV, rfl, hfz, hnd⟩ := hW
  have hA : DataW.TrodAll enc Try.prog W 0 (fun _ => true) true Try.f3.params.toList args.toList ds p := hA0
  rw [Try.params3] at hA hval hsz
  obtain ⟨v0, vs0, d0, ds0, p0, q0, hargs, rfl, rfl, h0, r0⟩ := trodAll_cons hA
  obtain ⟨v1, vs1, d1, ds1, p1, q1, rfl, rfl, rfl, h1, r1⟩ := trodAll_cons r0
  obtain ⟨v2, vs2, d2, ds2, p2, q2, rfl, rfl, rfl, h2, r2⟩ := trodAll_cons r1
  obtain ⟨v3, vs3, d3, ds3, p3, q3, rfl, rfl, rfl, h3, r3⟩ := trodAll_cons r2
  obtain ⟨v4, vs4, d4, ds4, p4, q4, rfl, rfl, rfl, h4, r4⟩ := trodAll_cons r3
  obtain ⟨v5, vs5, d5, ds5, p5, q5, rfl, rfl, rfl, h5, r5⟩ := trodAll_cons r4
  obtain ⟨v6, vs6, d6, ds6, p6, q6, rfl, rfl, rfl, h6, r6⟩ := trodAll_cons r5
  obtain ⟨rfl, rfl, rfl⟩ := trodAll_nil r6
  obtain rfl : args = #[v0, v1, v2, v3, v4, v5, v6] := by cases args; simp_all
  obtain ⟨rfl, rfl⟩ := trodVars_none hV
  have lt0 : ∀ x ∈ p0, x.block < W.heap.size := by obtain ⟨m, hm⟩ := h0; exact DataW.trod_lt m _ _ _ hm
  have lt1 : ∀ x ∈ p1, x.block < W.heap.size := by obtain ⟨m, hm⟩ := h1; exact DataW.trod_lt m _ _ _ hm
  have lt2 : ∀ x ∈ p2, x.block < W.heap.size := by obtain ⟨m, hm⟩ := h2; exact DataW.trod_lt m _ _ _ hm
  have lt3 : ∀ x ∈ p3, x.block < W.heap.size := by obtain ⟨m, hm⟩ := h3; exact DataW.trod_lt m _ _ _ hm
  have lt4 : ∀ x ∈ p4, x.block < W.heap.size := by obtain ⟨m, hm⟩ := h4; exact DataW.trod_lt m _ _ _ hm
  have lt5 : ∀ x ∈ p5, x.block < W.heap.size := by obtain ⟨m, hm⟩ := h5; exact DataW.trod_lt m _ _ _ hm
  have lt6 : ∀ x ∈ p6, x.block < W.heap.size := by obtain ⟨m, hm⟩ := h6; exact DataW.trod_lt m _ _ _ hm
  have light : ∀ (j : Nat) (t : TypeId) (d : DataW H), ([23, 3, 3, 3, 3, 4, 4] ++ Rows.handleTellsSpec.plain.varTypes Try.prog)[j]? = some t → ([d0, d1, d2, d3, d4, d5, d6] ++ [] : List (DataW H))[j]? = some d → Light Try.prog t d := fun j t d ht hd n hn => by
    have := List.all_eq_true.1 hsz n (DataW.weights_mem_each ht hd n hn)
    simpa using this
  obtain ⟨a0, w0, e0⟩ := arg_rel (n := 12) (c := (.st (.cons (.int .i64) (.cons (.int .i64) (.cons .bool .bool))))) (by kernel_rfl) (by kernel_rfl) (hval 0 23 v0 rfl rfl) h0 (light 0 23 d0 rfl rfl)
  obtain ⟨a1, w1, e1⟩ := arg_rel (n := 12) (c := (.int .i64)) (by kernel_rfl) (by kernel_rfl) (hval 1 3 v1 rfl rfl) h1 (light 1 3 d1 rfl rfl)
  obtain ⟨a2, w2, e2⟩ := arg_rel (n := 12) (c := (.int .i64)) (by kernel_rfl) (by kernel_rfl) (hval 2 3 v2 rfl rfl) h2 (light 2 3 d2 rfl rfl)
  obtain ⟨a3, w3, e3⟩ := arg_rel (n := 12) (c := (.int .i64)) (by kernel_rfl) (by kernel_rfl) (hval 3 3 v3 rfl rfl) h3 (light 3 3 d3 rfl rfl)
  obtain ⟨a4, w4, e4⟩ := arg_rel (n := 12) (c := (.int .i64)) (by kernel_rfl) (by kernel_rfl) (hval 4 3 v4 rfl rfl) h4 (light 4 3 d4 rfl rfl)
  obtain ⟨a5, w5, e5⟩ := arg_rel (n := 12) (c := .bool) (by kernel_rfl) (by kernel_rfl) (hval 5 4 v5 rfl rfl) h5 (light 5 4 d5 rfl rfl)
  obtain ⟨a6, w6, e6⟩ := arg_rel (n := 12) (c := .bool) (by kernel_rfl) (by kernel_rfl) (hval 6 4 v6 rfl rfl) h6 (light 6 4 d6 rfl rfl)
  clear hA0 hval0 hsz0 hsz
  refine (law_fn ok4 Try.func3 rfl (ts := [(.st (.cons (.int .i64) (.cons (.int .i64) (.cons .bool .bool)))), (.int .i64), (.int .i64), (.int .i64), (.int .i64), .bool, .bool]) (T := []) (fuel := 3000) (a0, a1, a2, a3, a4, a5, a6, ()) (vs := #[v0, v1, v2, v3, v4, v5, v6]) (W := W) ?_ (tellsPure a0 a1 a2 a3 a4 a5 a6 w0 w1 w2 w3 w4 w5 w6)).mono fun e W' ⟨he, bel⟩ => ?_
  · simp only [datA, VRL]
    exact ⟨_, _, rfl, e0, ⟨_, _, rfl, e1, ⟨_, _, rfl, e2, ⟨_, _, rfl, e3, ⟨_, _, rfl, e4, ⟨_, _, rfl, e5, ⟨_, _, rfl, e6, rfl⟩⟩⟩⟩⟩⟩⟩
  subst he
  exact ⟨_, rfl, _, _, _, [], _, [], hW', trodAll_mk1 (shut_bool Try.underlying4 _), (trodAll_cons_mk (Below.trod handleTells_laid (by kernel_rfl) (of_decide_eq_true (by kernel_rfl)) h0 bel lt0) (trodAll_cons_mk (Below.trod handleTells_laid (by kernel_rfl) (of_decide_eq_true (by kernel_rfl)) h1 bel lt1) (trodAll_cons_mk (Below.trod handleTells_laid (by kernel_rfl) (of_decide_eq_true (by kernel_rfl)) h2 bel lt2) (trodAll_cons_mk (Below.trod handleTells_laid (by kernel_rfl) (of_decide_eq_true (by kernel_rfl)) h3 bel lt3) (trodAll_cons_mk (Below.trod handleTells_laid (by kernel_rfl) (of_decide_eq_true (by kernel_rfl)) h4 bel lt4) (trodAll_cons_mk (Below.trod handleTells_laid (by kernel_rfl) (of_decide_eq_true (by kernel_rfl)) h5 bel lt5) (trodAll_cons_mk (Below.trod handleTells_laid (by kernel_rfl) (of_decide_eq_true (by kernel_rfl)) h6 bel lt6) trodAll_mk0))))))), rfl, bel.frame _, fun h => by cases h⟩

theorem handleTells_holds : Rows.HandleTellsSaid :=
  OpenClaim.holds_of_wide 3 Try.f3 rfl rfl rfl rfl rfl rfl rfl ⟨rfl, rfl, rfl, rfl, rfl⟩ rfl rfl rfl rfl rfl (by kernel_rfl) Try.func3 (by kernel_rfl)
    (of_decide_eq_true (by kernel_rfl)) (by unfold Func.isWrapper; first | (rw [if_pos (by decide +kernel)]; kernel_rfl) | (rw [if_neg (by decide +kernel)]; exact ⟨rfl, rfl⟩))
    (fun os started H enc _ => handleTells_lifted os started H enc)
#print axioms handleTells_holds
end Go.Proofs.Ytigfnidgpmfneaa
