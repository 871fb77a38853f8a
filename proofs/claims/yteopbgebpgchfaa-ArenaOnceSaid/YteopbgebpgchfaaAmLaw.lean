/- DERIVED. NO CLAIM IN IT. From a run of the plain machine to a law's row. -/
import Derived.Test.YteopbgebpgchfaaAmOpen
import Derived.ProofKit
import Derived.ChangeOld
set_option linter.unusedVariables false
set_option linter.unusedSimpArgs false
namespace Go.AM
open Go.RowKit Go.WideShapes Go.ChangeShapes Go.ChangeMaps

/-- The memory that a call meets: all of it stays. -/
def mem0 (W : World) : Mem := { ρ := fun _ => none, N := fun b => b < W.heap.size, D := fun _ => False, w := W }

theorem mem0_MR (W : World) : MR W.heap.size W (fun b => b < W.heap.size) (mem0 W) [] :=
  ⟨Below.refl _ _, Nat.le_refl _, fun _ h => h, fun _ h => .inl h, fun n v b hv => by simp [mem0] at hv, fun n k v u b hv => by simp [mem0] at hv, fun n v hv => by simp [mem0] at hv, fun n => by simp [mem0]⟩

theorem arg_rel {H : Type} {enc : TypeId × Value → H} {P : Program} {W : World} {spare : Nat → Bool} {held : Bool} {b0 base : Nat} {r : Reach} {n : Nat} {t : TypeId} {c : Ty} (hc : codeOf P n t = some c) (hl : layOk P n t = true) {v : Value} {d : DataW H} {ps : List MemPlace}
    (hval : Value.okWide P W r b0 t v) (hd : DataW.Trod enc P W base spare held t v d ps) (hw : Light P t d) : ∃ el : El c, okT c el ∧ VR (mem0 W) (.dat c el) v := by
  have hd' := hd
  obtain ⟨fuel, hf⟩ := hd'
  obtain ⟨el, h1, h2⟩ := open_code n t c hc hl fuel _ _ hf hw
  refine ⟨el, h2, ?_⟩
  have hN : RepC (mem0 W).N (mem0 W).w c el v.cells.toList := h1
  cases n with
  | zero => simp [codeOf] at hc
  | succ n =>
  simp only [codeOf] at hc
  split at hc
  · rename_i k hu
    simp at hc; subst hc
    obtain ⟨x, rfl⟩ := okWide_int hu hval
    simp only [VR]
    exact ⟨_, hN, by simp [valOf, Value.cells], by simp, by simp⟩
  · rename_i hu
    simp at hc; subst hc
    obtain ⟨x, rfl⟩ := okWide_bool hu hval
    simp only [VR]
    exact ⟨_, hN, by simp [valOf, Value.cells], by simp, by simp⟩
  · rename_i hu
    simp at hc; subst hc
    obtain ⟨x, rfl⟩ := okWide_string hu hval
    simp only [VR]
    exact ⟨_, hN, by simp [valOf, Value.cells], by simp, by simp⟩
  · rename_i e hu
    obtain ⟨ce, hce, rfl⟩ := Option.map_eq_some_iff.1 hc
    obtain ⟨a, len, cap, rfl⟩ := okWide_slice hu hval
    simp only [VR]
    exact ⟨_, hN, by simp [valOf, Value.cells], by simp, by simp⟩
  · rename_i fs hu
    obtain ⟨l, hm, rfl⟩ := Option.map_eq_some_iff.1 hc
    simp only [Value.okWide, hu] at hval
    obtain ⟨cs, rfl, _⟩ := hval
    simp only [VR]
    exact ⟨_, hN, by simp [valOf, Value.cells], by simp, by simp⟩
  · rename_i k e hu
    obtain ⟨ce, hce, rfl⟩ := Option.map_eq_some_iff.1 hc
    simp only [Value.okWide, hu] at hval
    obtain ⟨cs, rfl, _⟩ := hval
    simp only [VR]
    exact ⟨_, hN, by simp [valOf, Value.cells], by simp, by simp⟩
  · simp at hc

theorem law_run {C : Ctx} (hC : C.OK) {f : FuncId} {fn : Func} {body : Code} (hf : C.P.funcs[f]? = some fn) (hb : fn.body = some body) {T : List Cut} {fuel : Nat} {args : List DV} {vs : Array Value} {W : World}
    (hargs : VRL (mem0 W) args vs.toList) (hless : namelessL args = true)
    (hk : ∃ k, big C T (finF C.P [some .bool]) fuel k { fn := f, nt := fn.ntmps, env := argEnv 0 args, todo := [.code body] } [] [] = some (.dat .bool true, [])) :
    Calls C.P f vs W fun e W' => e = .returned (.bool true) ∧ Below W.heap.size W W' := by
  let sp : Spec := { cps := fun _ _ _ => none, den := fun a nx d news => a = args ∧ d = .dat .bool true ∧ news = [], nd := fun a nx d news h => by simp [h.2.2], ok := fun a nx K r h => by simp at h }
  have hcon : Contract C.P f sp := contract_of hC hf hb (T := T) (fuel := fuel) (ts := [some .bool]) rfl (by
    rintro a nx d news ⟨rfl, rfl, rfl⟩
    exact hk)
  refine (hcon args 0 (.dat .bool true) [] ⟨rfl, rfl, rfl⟩ hless W.heap.size W _ (mem0 W) [] vs (mem0_MR W) hargs (by simp) (by simp)).mono ?_
  rintro e W' ⟨v, m', rfl, rfl, _, hm, hv, _⟩
  have := of_bool hv
  subst this
  exact ⟨rfl, hm.below⟩
end Go.AM
