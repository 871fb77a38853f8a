/- DERIVED. NO CLAIM IN IT. The program of this seat: what the plain machine is told of it. -/
import Derived.Test.YteopbgebpgchfaaAmEq
import Derived.Test.YteopbgebpgchfaaProg
import Derived.KernelRfl
import Derived.Laws.Externs
set_option linter.unusedVariables false
set_option linter.unusedSimpArgs false
namespace Go.AM.L09
open Go.RowKit Go.Proofs

def ext : Nat → Option (List DV → Option DV) := fun g =>
  match g with
  | 49 => some fun a => match a with
    | [.ifc 51 _] => some (.ifc 86 (.agg [.raw (.pointer (some ⟨0, 51, none⟩))]))
    | _ => none
  | 72 => some fun a => match a with
    | [.agg [.raw (.pointer (some ⟨0, 51, none⟩))]] => some (.dat .bool true)
    | _ => none
  | _ => none

noncomputable def C0 : Ctx := { P := Try.prog, S := fun _ => none, EQ := [32], X := ext }

theorem isTypeOf (v : Value) (w : World) : (Extern.ReflectliteType.typeOf #[.iface 51 v]).run Try.prog w = .ok (.iface 86 (.agg #[.pointer (some ⟨0, 51, none⟩)])) w := by kernel_rfl
theorem isComparable (w : World) : ((Extern.ReflectliteType.method fun t => do Extern.Rtype.noPackHeld "Comparable" t; pure (.bool (← typeInfo t).comparable)) #[.agg #[.pointer (some ⟨0, 51, none⟩)]]).run Try.prog w = .ok (.bool true) w := by kernel_rfl

theorem names : (Try.prog.funcs.toList.all fun fn => (fn.name == "runtime.NumGoroutine") == false) = true := by kernel_rfl
theorem mixed : Try.prog.follows .mixedOrders = true := by kernel_rfl
theorem eq32 : EqFact Try.prog 32 := eqFact_of (by kernel_rfl) (by kernel_rfl)

theorem ok0 : C0.OK := by
  refine ⟨fun g sp h => by simp [C0] at h, fun T hT => ?_, fun g fn h => ?_, fun g sp h => by simp [C0] at h, mixed, ?_⟩
  · have : T = 32 := by simpa [C0] using hT
    subst this
    exact eq32
  · have h : Try.prog.funcs[g]? = some fn := h
    have := List.all_eq_true.1 names fn (by simpa using Array.mem_of_getElem? h)
    simpa using this
  · intro g xf hx args d hd m vs hvs
    have hx : ext g = some xf := hx
    unfold ext at hx
    split at hx
    · simp at hx
      subst hx
      simp only at hd
      split at hd
      · simp at hd
        subst hd
        simp only [VRL, VR] at hvs
        obtain ⟨v, vr, e1, ⟨u, e2, e3⟩, e4⟩ := hvs
        have hv : vs = #[.iface 51 u] := by
          apply Array.ext'
          rw [e1, e4, e2]
        subst hv
        refine ⟨.iface 86 (.agg #[.pointer (some ⟨0, 51, none⟩)]), (run_callFunc_extern (P := Try.prog) (e := Extern.ReflectliteType.typeOf) Try.func49 (by kernel_rfl) (by kernel_rfl) (by kernel_rfl) (by kernel_rfl) _ _).trans ?_, ?_⟩
        · rw [isTypeOf]; rfl
        · simp only [VR, VRL]
          exact ⟨_, rfl, _, rfl, _, _, rfl, rfl, rfl⟩
      · simp at hd
    · simp at hx
      subst hx
      simp only at hd
      split at hd
      · simp at hd
        subst hd
        simp only [VRL, VR] at hvs
        obtain ⟨v, vr, e1, ⟨us, e2, u, ur, e5, e6, e7⟩, e4⟩ := hvs
        have hv : vs = #[.agg #[.pointer (some ⟨0, 51, none⟩)]] := by
          apply Array.ext'
          rw [e1, e4, e2]
          congr 2
          apply Array.ext'
          rw [e5, e7, e6]
        subst hv
        refine ⟨.bool true, (run_callFunc_extern (P := Try.prog) (e := Extern.ReflectliteType.method fun t => do Extern.Rtype.noPackHeld "Comparable" t; pure (.bool (← typeInfo t).comparable)) Try.func72 (by kernel_rfl) (by kernel_rfl) (by kernel_rfl) (by kernel_rfl) _ _).trans ?_, dat_bool true⟩
        rw [isComparable]; rfl
      · simp at hd
    · simp at hx
end Go.AM.L09
