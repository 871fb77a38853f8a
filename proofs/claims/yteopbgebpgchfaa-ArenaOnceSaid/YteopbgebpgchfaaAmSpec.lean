/- DERIVED. NO CLAIM IN IT. Functions of data, told once. -/
import Derived.Test.YteopbgebpgchfaaAmLaw
set_option linter.unusedVariables false
set_option linter.unusedSimpArgs false
namespace Go.AM
open Go.RowKit

@[reducible] def Args : List Ty → Type
  | [] => Unit
  | t :: ts => El t × Args ts

def argP : (ts : List Ty) → List DV → Option (Args ts)
  | [], [] => some ()
  | t :: ts, d :: r => (match toEl t d with
    | some x => (match argP ts r with
      | some a => some (x, a)
      | none => none)
    | none => none)
  | _, _ => none

def datA : (ts : List Ty) → Args ts → List DV
  | [], _ => []
  | t :: ts, a => .dat t a.1 :: datA ts a.2

theorem datA_less : ∀ (ts : List Ty) (a : Args ts), namelessL (datA ts a) = true
  | [], _ => rfl
  | t :: ts, a => by simp [datA, namelessL, nameless, datA_less ts a.2]

theorem argP_rel {m : Mem} : ∀ {ts : List Ty} {args : List DV} {a : Args ts} {vs : List Value}, (ts.all fun t => okTy (some t)) = true → argP ts args = some a → VRL m args vs → VRL m (datA ts a) vs
  | [], [], a, vs, _, h, q => by simpa [datA] using q
  | [], _ :: _, a, vs, _, h, q => by simp [argP] at h
  | _ :: _, [], a, vs, _, h, q => by simp [argP] at h
  | t :: ts, d :: r, a, vs, ht, h, q => by
    simp only [List.all_cons, Bool.and_eq_true] at ht
    simp only [argP] at h
    split at h
    · rename_i x hx
      split at h
      · rename_i b hb
        simp at h; subst h
        simp only [VRL] at q
        obtain ⟨v, vr, h1, h2, h3⟩ := q
        simp only [datA, VRL]
        exact ⟨v, vr, h1, toEl_rel (by rintro rfl; simp [okTy] at ht) (by rintro a b rfl; simp [okTy] at ht) hx h2, argP_rel ht.2 hb h3⟩
      · simp at h
    · simp at h

/-- A function that gives data of one form. -/
def fnSpec (ts : List Ty) (pre : Args ts → Bool) (res : Args ts → DV) : Spec where
  cps := fun args nx K => match argP ts args with
    | some a => bif pre a then K (res a) [] else none
    | none => none
  den := fun args nx d news => ∃ a, argP ts args = some a ∧ pre a = true ∧ d = res a ∧ news = []
  nd := by rintro args nx d news ⟨a, _, _, _, rfl⟩; simp
  ok := by
    intro R args nx K r h
    split at h
    · rename_i a ha
      cases hp : pre a <;> simp only [hp, cond_true, cond_false] at h
      · simp at h
      exact ⟨_, _, ⟨a, ha, hp, rfl, rfl⟩, h⟩
    · simp at h

def startF (fn : Func) (f : FuncId) (body : Code) (args : List DV) : Fr := { fn := f, nt := fn.ntmps, env := argEnv 0 args, todo := [.code body] }

/-- The state in which a function of the program begins. -/
def startA (P : Program) (f : FuncId) (args : List DV) : Fr :=
  match enter P f args with
  | some fr => fr
  | none => ⟨0, 0, [], []⟩

theorem startA_eq {P : Program} {f : FuncId} {fn : Func} {body : Code} (hf : P.funcs[f]? = some fn) (hb : fn.body = some body) (args : List DV) : startA P f args = startF fn f body args := by
  simp only [startA, enter, hf, hb, startF]

theorem contract_fn {C : Ctx} (hC : C.OK) {f : FuncId} {fn : Func} {body : Code} (hf : C.P.funcs[f]? = some fn) (hb : fn.body = some body) {T : List Cut} {fuel : Nat} {rs : List (Option Ty)} (hrs : rs.all okTy = true) {ts : List Ty} (hts : (ts.all fun t => okTy (some t)) = true)
    {pre : Args ts → Bool} {res : Args ts → DV}
    (h : ∀ a, pre a = true → ∃ k, big C T (finF C.P rs) fuel k (startA C.P f (datA ts a)) [] [] = some (res a, [])) : Contract C.P f (fnSpec ts pre res) := by
  rintro args nx d news ⟨a, ha, hp, rfl, rfl⟩ hless base w0 N0 m O' vs hm hargs hnews hfree
  have hvs := argP_rel hts ha hargs
  let sp : Spec := { cps := fun _ _ _ => none, den := fun b nx d news => b = datA ts a ∧ d = res a ∧ news = [], nd := fun a nx d news h => by simp [h.2.2], ok := fun a nx K r h => by simp at h }
  have hcon : Contract C.P f sp := contract_of hC hf hb (T := T) (fuel := fuel) (ts := rs) hrs (by
    rintro b nx d news ⟨rfl, rfl, rfl⟩
    have := h a hp
    rw [startA_eq hf hb] at this
    exact this)
  exact hcon (datA ts a) nx (res a) [] ⟨rfl, rfl, rfl⟩ (datA_less ts a) base w0 N0 m O' vs hm hvs hnews hfree

/-- One function more is told. -/
def Ctx.also (C : Ctx) (f : Nat) (sp : Spec) : Ctx := { C with S := fun g => bif Nat.beq g f then some sp else C.S g }

theorem Ctx.OK.also {C : Ctx} (h : C.OK) {f : Nat} {sp : Spec} {fn : Func} (hc : Contract C.P f sp) (hf : C.P.funcs[f]? = some fn) (hb : fn.body.isNone = false) : (C.also f sp).OK := by
  refine ⟨fun g s hs => ?_, h.eq, h.name, fun g s hs => ?_, h.mixed, h.ext⟩
  · simp only [Ctx.also] at hs
    cases hg : Nat.beq g f <;> simp only [hg, cond_true, cond_false] at hs
    · exact h.spec g s hs
    · have := Nat.eq_of_beq_eq_true hg
      simp at hs
      subst hs
      subst this
      exact hc
  · simp only [Ctx.also] at hs
    cases hg : Nat.beq g f <;> simp only [hg, cond_true, cond_false] at hs
    · exact h.body g s hs
    · have := Nat.eq_of_beq_eq_true hg
      subst this
      exact ⟨fn, hf, hb⟩

/-- A law's run. -/
theorem law_fn {C : Ctx} (hC : C.OK) {f : FuncId} {fn : Func} {body : Code} (hf : C.P.funcs[f]? = some fn) (hb : fn.body = some body) {T : List Cut} {fuel : Nat} {ts : List Ty} (a : Args ts) {vs : Array Value} {W : World}
    (hargs : VRL (mem0 W) (datA ts a) vs.toList) (hk : ∃ k, big C T (finF C.P [some .bool]) fuel k (startA C.P f (datA ts a)) [] [] = some (.dat .bool true, [])) :
    Calls C.P f vs W fun e W' => e = .returned (.bool true) ∧ Below W.heap.size W W' := by
  refine law_run hC hf hb hargs (datA_less ts a) (T := T) (fuel := fuel) ?_
  rw [startA_eq hf hb] at hk
  exact hk
end Go.AM
