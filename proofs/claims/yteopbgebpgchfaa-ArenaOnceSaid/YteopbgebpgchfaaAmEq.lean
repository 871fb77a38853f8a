/- DERIVED. NO CLAIM IN IT. '==' of structs without slices. -/
import Derived.Test.YteopbgebpgchfaaAmSpec
import Derived.Laws.StructEq
set_option linter.unusedVariables false
set_option linter.unusedSimpArgs false
namespace Go.AM
open Go.RowKit

def eqOk (P : Program) : Nat → TypeId → Bool
  | 0, _ => false
  | n + 1, t => (match P.underlying t with
    | some (.int _) => true
    | some .bool => true
    | some .string => true
    | some (.struct fs) => !P.stoodInHeld t && offsOk (fs.toList.map fun f => (f.offset, P.cellsOf f.type)) 0 (P.cellsOf t) && fs.toList.all fun f => !(f.name == "_") && eqOk P n f.type
    | _ => false) && (match codeOf P (n + 1) t with
      | some c => Nat.beq (P.cellsOf t) (csz c)
      | none => false)

theorem vals_len : ∀ (c : Ty) (x y : El c) (b : Bool), eqEl c x y = some b → (vals c x).length = csz c ∧ (vals c y).length = csz c
  | .int k, x, y, b, h => ⟨rfl, rfl⟩
  | .bool, x, y, b, h => ⟨rfl, rfl⟩
  | .str, x, y, b, h => ⟨rfl, rfl⟩
  | .sl e, x, y, b, h => by simp [eqEl] at h
  | .st f, x, y, b, h => vals_len f x y b (by simpa only [eqEl] using h)
  | .nil, x, y, b, h => ⟨rfl, rfl⟩
  | .cons p q, x, y, b, h => by
    simp only [eqEl] at h
    split at h
    · rename_i r s h1 h2
      obtain ⟨g1, g2⟩ := vals_len p _ _ r h1
      obtain ⟨g3, g4⟩ := vals_len q _ _ s h2
      simp [vals, csz, g1, g2, g3, g4]
    · simp at h

theorem eqf_all {P : Program} {d : Nat} {w : World} {xs ys : Array Value} : ∀ (fs : List Field) (l : List Ty) (off tot : Nat) (x y : El (chain l)) (b : Bool), fs.length = l.length → offsOk (fs.map fun f => (f.offset, P.cellsOf f.type)) off tot = true →
    (∀ (i : Nat) (f : Field) (c : Ty), fs[i]? = some f → l[i]? = some c → P.cellsOf f.type = csz c ∧ (f.name == "_") = false ∧ ∀ (x y : El c) (b : Bool), eqEl c x y = some b → ∀ (xs ys : Array Value) (o : Nat), (xs.toList.drop o).take (csz c) = vals c x → (ys.toList.drop o).take (csz c) = vals c y →
      ∃ u v, (part f.type xs o).run P w = .ok u w ∧ (part f.type ys o).run P w = .ok v w ∧ (Op.equalIn d f.type u v).run P w = .ok b w) →
    eqEl (chain l) x y = some b → xs.toList.drop off = vals (chain l) x → ys.toList.drop off = vals (chain l) y → (Op.eqFields d xs ys fs).run P w = .ok b w
  | [], [], off, tot, x, y, b, _, _, _, h, _, _ => by simp [chain, eqEl] at h; subst h; simp [Op.eqFields]
  | [], _ :: _, off, tot, x, y, b, h, _, _, _, _, _ => by simp at h
  | _ :: _, [], off, tot, x, y, b, h, _, _, _, _, _ => by simp at h
  | [f], [c], off, tot, x, y, b, _, ho, hi, h, hx, hy => by
    simp only [List.map, offsOk, Bool.and_eq_true] at ho
    have h1 := Nat.eq_of_beq_eq_true ho.1
    obtain ⟨g1, g2, g3⟩ := hi 0 f c rfl rfl
    obtain ⟨l1, l2⟩ := vals_len c x y b h
    have hx : xs.toList.drop off = vals c x := hx
    have hy : ys.toList.drop off = vals c y := hy
    obtain ⟨u, v, e1, e2, e3⟩ := g3 x y b h xs ys off (by rw [hx, List.take_of_length_le (by omega)]) (by rw [hy, List.take_of_length_le (by omega)])
    have hn' : f.name ≠ "_" := by simpa using g2
    rw [Op.eqFields]
    simp only [if_pos hn', h1, Sem.run_bind, e1, e2, e3, Result.andThen_ok]
    cases b <;> simp [Op.eqFields]
  | [f], c :: c' :: l, off, tot, x, y, b, h, _, _, _, _, _ => by simp at h
  | f :: f' :: r, [c], off, tot, x, y, b, h, _, _, _, _, _ => by simp at h
  | f :: f' :: r, c :: c' :: l, off, tot, x, y, b, hl, ho, hi, h, hx, hy => by
    rw [List.map, offsOk, Bool.and_eq_true] at ho
    have h1 := Nat.eq_of_beq_eq_true ho.1
    obtain ⟨g1, g2, g3⟩ := hi 0 f c rfl rfl
    simp only [chain, eqEl] at h
    split at h
    · rename_i p q hp hq
      simp at h
      obtain ⟨l1, l2⟩ := vals_len c x.1 y.1 p hp
      have hx : xs.toList.drop off = vals c x.1 ++ vals (chain (c' :: l)) x.2 := hx
      have hy : ys.toList.drop off = vals c y.1 ++ vals (chain (c' :: l)) y.2 := hy
      obtain ⟨u, v, e1, e2, e3⟩ := g3 x.1 y.1 p hp xs ys off (by rw [hx, List.take_left' l1]) (by rw [hy, List.take_left' l2])
      have ih := eqf_all (f' :: r) (c' :: l) (off + P.cellsOf f.type) tot x.2 y.2 q (by simpa using hl) ho.2 (fun i f c h1 h2 => hi (i + 1) f c h1 h2) hq
        (by rw [← List.drop_drop, hx, g1, List.drop_left' l1]) (by rw [← List.drop_drop, hy, g1, List.drop_left' l2])
      have hn' : f.name ≠ "_" := by simpa using g2
      rw [Op.eqFields]
      simp only [if_pos hn', h1, Sem.run_bind, e1, e2, e3, Result.andThen_ok]
      cases p
      · simp; simpa using h
      · simp at h; subst h; simpa using ih
    · simp at h

theorem part_vals {P : Program} {w : World} {n : Nat} {t : TypeId} {c : Ty} (hcode : codeOf P n t = some c) (q2 : eqOk P n t = true) (hsz : P.cellsOf t = csz c) {xs : Array Value} {o : Nat} (x : El c) (hx : (xs.toList.drop o).take (csz c) = vals c x) :
    (part t xs o).run P w = .ok (valOf c (vals c x)) w := by
  unfold part
  cases n with
  | zero => simp [codeOf] at hcode
  | succ n =>
  simp only [codeOf] at hcode
  split at hcode
  · rename_i k hu1
    simp at hcode; subst hcode
    rw [Sem.run_bind, isAgg_run hu1]
    simp only [aggT, hu1, Result.andThen_ok, Bool.false_eq_true, if_false]
    have hx0 : xs[o]? = some (.int k x) := by
      have := congrArg (fun l => l[0]?) hx
      simpa [vals, csz, List.getElem?_take] using this
    simp [hx0, valOf, vals]
  · rename_i hu1
    simp at hcode; subst hcode
    rw [Sem.run_bind, isAgg_run hu1]
    simp only [aggT, hu1, Result.andThen_ok, Bool.false_eq_true, if_false]
    have hx0 : xs[o]? = some (.bool x) := by
      have := congrArg (fun l => l[0]?) hx
      simpa [vals, csz, List.getElem?_take] using this
    simp [hx0, valOf, vals]
  · rename_i hu1
    simp at hcode; subst hcode
    rw [Sem.run_bind, isAgg_run hu1]
    simp only [aggT, hu1, Result.andThen_ok, Bool.false_eq_true, if_false]
    have hx0 : xs[o]? = some (.string x) := by
      have := congrArg (fun l => l[0]?) hx
      simpa [vals, csz, List.getElem?_take] using this
    simp [hx0, valOf, vals]
  · rename_i e hu1
    rw [eqOk] at q2
    simp [hu1] at q2
  · rename_i gs hu1
    obtain ⟨l', hm', rfl⟩ := Option.map_eq_some_iff.1 hcode
    rw [Sem.run_bind, isAgg_run hu1]
    simp only [aggT, hu1, Result.andThen_ok, if_true, Sem.run_bind, sizeOf_run hu1, Sem.run_pure, hsz, valOf]
    rw [← hx]
    congr 2
    apply Array.ext'
    simp [Array.toList_extract, List.extract_eq_take_drop]
  · rename_i k e hu1
    rw [eqOk] at q2
    simp [hu1] at q2
  · simp at hcode

theorem eq_code {P : Program} {w : World} : ∀ (n : Nat) (t : TypeId) (c : Ty), codeOf P n t = some c → eqOk P n t = true → ∀ (x y : El c) (b : Bool), eqEl c x y = some b → ∀ d, n ≤ d → (Op.equalIn d t (valOf c (vals c x)) (valOf c (vals c y))).run P w = .ok b w
  | 0, t, c, h, _ => by simp [codeOf] at h
  | n + 1, t, c, hc, ho => by
    intro x y b he d hd
    obtain ⟨d, rfl⟩ : ∃ q, d = q + 1 := ⟨d - 1, by omega⟩
    rw [eqOk, Bool.and_eq_true] at ho
    have ho := ho.1
    simp only [codeOf] at hc
    split at hc
    · rename_i k hu
      simp at hc; subst hc
      simp only [eqEl, Option.some.injEq] at he
      subst he
      simp [valOf, vals, run_equalIn_int w d t _ _ _ _ hu]
    · rename_i hu
      simp at hc; subst hc
      simp only [eqEl, Option.some.injEq] at he
      subst he
      simp [valOf, vals, run_equalIn_bool' w d t _ _ hu]
    · rename_i hu
      simp at hc; subst hc
      simp only [eqEl, Option.some.injEq] at he
      subst he
      simp [valOf, vals, run_equalIn_string w d t _ _ hu, beq_toListBytes]
    · rename_i e hu
      simp [hu] at ho
    · rename_i fs hu
      obtain ⟨l, hm, rfl⟩ := Option.map_eq_some_iff.1 hc
      simp only [hu, Bool.and_eq_true, List.all_eq_true, Bool.not_eq_true'] at ho
      obtain ⟨⟨o1, o2⟩, o3⟩ := ho
      have hfo : P.fieldsOf t = fs := by simp [Program.fieldsOf, hu]
      simp only [valOf]
      rw [run_equalIn_struct (P := P) w d t _ _ (by rw [hfo]; exact hu) o1, hfo]
      have he' : eqEl (chain l) x y = some b := by simpa only [eqEl] using he
      refine eqf_all fs.toList l 0 (P.cellsOf t) x y b (mapM_some_length hm).symm o2 ?_ he' (by simp [vals]) (by simp [vals])
      intro i f c hf hci
      have hcode := mapM_some_get hm i f hf
      rw [hci] at hcode
      obtain ⟨q1, q2⟩ := o3 f (List.mem_of_getElem? hf)
      have hsz : P.cellsOf f.type = csz c := by
        cases n with
        | zero => simp [codeOf] at hcode
        | succ n =>
          rw [eqOk, Bool.and_eq_true, hcode] at q2
          exact Nat.eq_of_beq_eq_true q2.2
      refine ⟨hsz, q1, fun x y b he xs ys o hx hy => ?_⟩
      have ih := eq_code (w := w) n f.type c hcode q2 x y b he d (by omega)
      exact ⟨_, _, part_vals hcode q2 hsz x hx, part_vals hcode q2 hsz y hy, ih⟩
    · rename_i k e hu
      simp [hu] at ho
    · simp at hc

theorem eqFact_of {P : Program} {T : TypeId} (h0 : P.eqGuardType P.depth T = false) (h : eqOk P 12 T = true) : EqFact P T := by
  refine ⟨h0, fun f hf x y b he w => ?_⟩
  have := eq_code (w := w) 12 T (.st f) hf h x y b (by simpa only [eqEl] using he) Op.maxDepth (by decide)
  simpa [Op.equal, valOf, vals] using this
end Go.AM
