/- DERIVED. NO CLAIM IN IT. Functions that give a row of one's own. -/
import Derived.Test.YteopbgebpgchfaaAmCut
set_option linter.unusedVariables false
set_option linter.unusedSimpArgs false
namespace Go.AM
open Go.RowKit

/-- A result that is a row of one's own: its elements. -/
def finO (e : TypeId) (t : Ty) (d : DV) (O : Heap) : Option (List (El t)) :=
  match d with
  | .sl n => (match O[n]? with
    | some (.row e' t' xs) => bif Nat.beq e e' then castEl (a := .sl t') (.sl t) xs else none
    | _ => none)
  | .raw (.slice none 0 0) => some []
  | .e0 => some []
  | _ => none

def ownSpec (ts : List Ty) (pre : Args ts → Bool) (e : TypeId) (t : Ty) (res : Args ts → List (El t)) : Spec where
  cps := fun args nx K => match argP ts args with
    | some a => bif pre a then K (.sl nx) [.row e t (res a)] else none
    | none => none
  den := fun args nx d news => ∃ a, argP ts args = some a ∧ pre a = true ∧ d = .sl nx ∧ news = [.row e t (res a)]
  nd := by rintro args nx d news ⟨a, _, _, _, rfl⟩; simp
  ok := by
    intro R args nx K r h
    split at h
    · rename_i a ha
      cases hp : pre a <;> simp only [hp, cond_true, cond_false] at h
      · simp at h
      exact ⟨_, _, ⟨a, ha, hp, rfl, rfl⟩, h⟩
    · simp at h

theorem finO_rel {base : Nat} {w0 : World} {N0 : Nat → Prop} {m : Mem} {O : Heap} (hm : MR base w0 N0 m O) {e : TypeId} {t : Ty} {d : DV} {ys : List (El t)} {v : Value} (h : finO e t d O = some ys) (hv : VR m d v) :
    (∃ vs, OwnSl m.w e (csz t) v ys.length vs ∧ RowRep m.N m.w t ys vs) ∧ oneV v = true ∧ ∀ b, hblk v = some b → ¬ m.N b ∧ base ≤ b ∧ b < m.w.heap.size := by
  have nil : ∀ a, ys = [] → v = .slice a 0 0 → (∃ vs, OwnSl m.w e (csz t) v ys.length vs ∧ RowRep m.N m.w t ys vs) ∧ oneV v = true ∧ ∀ b, hblk v = some b → ¬ m.N b ∧ base ≤ b ∧ b < m.w.heap.size := by
    rintro a rfl rfl
    refine ⟨⟨[], ⟨a, 0, rfl, by simp, .inl ⟨rfl, rfl⟩⟩, rfl⟩, rfl, fun b hb => ?_⟩
    cases a <;> simp [hblk] at hb
  unfold finO at h
  split at h
  · rename_i n
    split at h
    · rename_i e' t' xs hO
      cases he : Nat.beq e e' <;> simp only [he, cond_true, cond_false] at h
      · simp at h
      have he := Nat.eq_of_beq_eq_true he
      subst he
      obtain ⟨q, rfl⟩ := castEl_some h
      simp at q
      subst q
      simp only [VR] at hv
      rcases hv with hv | ⟨hr, h1⟩
      · exact (notdead hm (fun _ _ _ h => h) hO (by simp) hv.1).elim
      exact ⟨blk_of hm (fun _ _ _ h => h) hO hr, h1, fun b hb => hm.nN n v b hr hb⟩
    · simp at h
  · simp at h
    subst h
    simp only [VR] at hv
    exact nil none rfl hv
  · simp at h
    subst h
    simp only [VR] at hv
    obtain ⟨a, hv⟩ := hv
    exact nil a rfl hv
  · simp at h

theorem contract_own {C : Ctx} (hC : C.OK) {f : FuncId} {fn : Func} {body : Code} (hf : C.P.funcs[f]? = some fn) (hb : fn.body = some body) {ts : List Ty} (hts : (ts.all fun t => okTy (some t)) = true)
    {pre : Args ts → Bool} {e : TypeId} {t : Ty} {res : Args ts → List (El t)}
    (h : ∀ a, pre a = true → Good C (finO e t) (startA C.P f (datA ts a)) [] [] (res a)) : Contract C.P f (ownSpec ts pre e t res) := by
  rintro args nx d news ⟨a, ha, hp, rfl, rfl⟩ hless base w0 N0 m O' vs hm hargs0 hnews hfree cs
  have hargs := argP_rel hts ha hargs0
  have hk := h a hp
  rw [startA_eq hf hb] at hk
  let m1 : Mem := { ρ := fun _ => none, N := m.N, D := fun _ => False, w := m.w }
  have hm1 : MR m.w.heap.size m.w m.N m1 [] :=
    ⟨Below.refl _ _, Nat.le_refl _, hm.lt, fun b hb => .inl hb, fun n v b hv => by simp [m1] at hv, fun n k v u b hv => by simp [m1] at hv, fun n v hv => by simp [m1] at hv, fun n => by simp [m1]⟩
  have ha1 := VRL.less (m := m) (m' := m1) (fun _ h => h) (fun _ _ => rfl) _ _ (datA_less ts a) hargs
  have hfr : FRel m1 { fn := f, nt := fn.ntmps, env := argEnv 0 (datA ts a), todo := [.code body] } (Frame.enter C.P f vs .normal) ⟨vs ++ Array.replicate (fn.ntmps - vs.size) undef, []⟩ :=
    ⟨rfl, rfl, rfl, by simp; omega, argEnv_er ha1 _⟩
  obtain ⟨d0, O2, m2, v, frE, e1, e2, e3, e4, e5, e6⟩ := hk m.w.heap.size m.w m.N m1 _ _ _ [.code body] [] cs hm1 hfr (.top (.code _ .nil) rfl) rfl
  obtain ⟨⟨ws, hown, hrow⟩, hone, hbl⟩ := finO_rel e5 e1 e6
  have hnx : m.ρ nx = none := by simpa using hfree 0 (by simp)
  have hO' : O'[nx]? = some (.row e t (res a)) := by simpa using hnews 0 _ rfl
  have hb2 := hm.bsz
  have hsz := e5.bsz
  let m3 : Mem := { ρ := fun k => if k = nx then some v else m.ρ k, N := fun b => m.N b ∨ (m.w.heap.size ≤ b ∧ b < m2.w.heap.size ∧ hblk v ≠ some b), D := m.D, w := m2.w }
  have hN : ∀ b, m2.N b → m3.N b := fun b hb => by
    rcases e5.nBase b hb with q | q
    · exact .inl q
    · exact .inr ⟨q, e5.lt b hb, fun hh => (hbl b hh).1 hb⟩
  have hext : Ext m m3 := ⟨fun n u hu => .inl (by
      have : n ≠ nx := by rintro rfl; rw [hnx] at hu; simp at hu
      simp [m3, this, hu]), fun b h => .inl h, fun _ h => h, fun b hb => e5.below.block b (hm.lt b hb)⟩
  have hρ : ∀ k u, m3.ρ k = some u → (k = nx ∧ u = v) ∨ (k ≠ nx ∧ m.ρ k = some u) := by
    intro k u hu
    by_cases q : k = nx
    · simp [m3, q] at hu; exact .inl ⟨q, hu.symm⟩
    · simp [m3, q] at hu; exact .inr ⟨q, hu⟩
  refine ⟨.returned v, m2.w, frE, ⟨v, m3, rfl, rfl, hext, ?_, ?_, ?_, ?_⟩, ?_, ?_, e4⟩
  · refine ⟨hm.below.trans (e5.below.mono hb2), Nat.le_trans hb2 hsz, ?_, ?_, ?_, ?_, ?_, hm.dead⟩
    · rintro b (h | h)
      · exact Nat.lt_of_lt_of_le (hm.lt b h) hsz
      · exact h.2.1
    · rintro b (h | h)
      · exact hm.nBase b h
      · exact .inr (Nat.le_trans hb2 h.1)
    · intro n u b hu hbu
      rcases hρ n u hu with ⟨rfl, rfl⟩ | ⟨q, hu⟩
      · obtain ⟨q1, q2, q3⟩ := hbl b hbu
        refine ⟨?_, Nat.le_trans hb2 q2, q3⟩
        rintro (h | h)
        · exact absurd (hm.lt b h) (by omega)
        · exact h.2.2 hbu
      · obtain ⟨q1, q2, q3⟩ := hm.nN n u b hu hbu
        refine ⟨?_, q2, Nat.lt_of_lt_of_le q3 hsz⟩
        rintro (h | h)
        · exact q1 h
        · exact absurd q3 (by omega)
    · intro n k u u' b hu hu' hbu hbu'
      rcases hρ n u hu with ⟨q, g⟩ | ⟨q, g⟩ <;> rcases hρ k u' hu' with ⟨q', g'⟩ | ⟨q', g'⟩
      · rw [q, q']
      · rw [g] at hbu
        have := (hbl b hbu).2.1
        have := (hm.nN k u' b g' hbu').2.2
        omega
      · rw [g'] at hbu'
        have := (hbl b hbu').2.1
        have := (hm.nN n u b g hbu).2.2
        omega
      · exact hm.inj n k u u' b g g' hbu hbu'
    · intro n u hu
      rcases hρ n u hu with ⟨rfl, rfl⟩ | ⟨q, hu⟩
      · exact ⟨_, hO', ws, hown, RowRep.keep hN (fun _ _ => rfl) t _ _ hrow⟩
      · obtain ⟨B, q1, q2⟩ := hm.blk n u hu
        exact ⟨B, q1, BR.keep hext B u (fun b hb => e5.below.block b (hm.nN n u b hu hb).2.2) q2⟩
  · simp only [VR]
    exact .inr ⟨by simp [m3], hone⟩
  · intro n u hu
    rcases hρ n u hu with ⟨rfl, _⟩ | ⟨_, hu⟩
    · exact .inr ⟨0, by simp, rfl⟩
    · exact .inl hu
  · intro k hk
    simp at hk
    subst hk
    exact ⟨v, by simp [m3]⟩
  · have : Frame.enter C.P f vs .normal = (Frame.enter C.P f vs .normal).at ⟨vs ++ Array.replicate (fn.ntmps - vs.size) undef, []⟩ [.code body] := by
      simp only [Frame.enter, Frame.at, hf, Option.map_some, Option.getD_some, Option.bind_some, hb]
    rw [← this] at e2
    exact e2
  · simpa [startF] using e3
end Go.AM
