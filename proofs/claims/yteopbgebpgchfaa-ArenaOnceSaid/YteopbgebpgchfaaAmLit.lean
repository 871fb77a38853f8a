/- DERIVED. NO CLAIM IN IT. Literals that are data from the first. -/
import Derived.Test.YteopbgebpgchfaaAmOps8
set_option linter.unusedVariables false
set_option linter.unusedSimpArgs false
namespace Go.AM
open Go.RowKit

theorem row_rep {N : Nat → Prop} {w : World} {t : Ty} : ∀ {xs : List (El t)} {vs : List Value} {b o : Nat}, RowRep N w t xs vs → w.rangeAt b o vs → ∀ i x, xs[i]? = some x → ∃ ecs, RepC N w t x ecs ∧ CellsAt w b (o + i * csz t) ecs
  | [], vs, b, o, _, _, i, x, h => by simp at h
  | y :: r, vs, b, o, h, hr, 0, x, hx => by
    obtain ⟨c1, c2, rfl, h2, h3⟩ := h
    simp at hx
    subst hx
    exact ⟨c1, h2, fun j v hj => by
      have := hr j v (by rw [List.getElem?_append_left (List.getElem?_eq_some_iff.1 hj).1]; exact hj)
      simpa using this⟩
  | y :: r, vs, b, o, h, hr, i + 1, x, hx => by
    obtain ⟨c1, c2, rfl, h2, h3⟩ := h
    have hl := RepC.len t y c1 h2
    obtain ⟨ecs, e1, e2⟩ := row_rep (b := b) (o := o + csz t) h3 (by
      have := range_drop (n := c1.length) hr
      rw [List.drop_left, hl] at this
      exact this) i x (by simpa using hx)
    exact ⟨ecs, e1, by rw [show o + (i + 1) * csz t = o + csz t + i * csz t by rw [Nat.add_mul]; omega]; exact e2⟩

section
variable {R : Type} {C : Ctx} {o : Oper} {env : Env} {K : DV → Option R} {E : Option R} {r : R}

theorem evB_done (h : evB C o env K E = some r) : E = some r ∨ ∃ d, (∀ O nx, OpOK C o env O nx d []) ∧ K d = some r := by
  unfold evB at h
  split at h
  case h_2 => exact .inl h
  rename_i T n parts ho
  split at h
  case h_2 => simp at h
  rename_i e hT
  split at h
  case h_2 => simp at h
  rename_i c hc
  cases hb : Nat.blt 0 (C.P.cellsOf e) && Nat.blt 0 n && Nat.ble (n * C.P.cellsOf e) 16777216 && Nat.beq (zeroCells C.P e).length (C.P.cellsOf e) && Nat.beq (csz c) (C.P.cellsOf e) <;> simp only [hb, cond_true, cond_false] at h
  · simp at h
  simp only [Bool.and_eq_true, Nat.blt_eq, Nat.ble_eq] at hb
  obtain ⟨⟨⟨⟨b1, b2⟩, b3⟩, b4⟩, b5⟩ := hb
  have b4 := Nat.eq_of_beq_eq_true b4
  have b5 := Nat.eq_of_beq_eq_true b5
  split at h
  case h_2 => simp at h
  rename_i cs hcs
  split at h
  case h_2 => simp at h
  rename_i xs hxs
  refine .inr ⟨_, fun O nx => ?_, h⟩
  intro base w0 N0 m O' a hm ha hO _ _ X hX
  obtain ⟨i, hi, hs⟩ := info_of_cells b1
  obtain ⟨z, hz'⟩ : ∃ z, (C.P.info? e).bind (·.zero) = some z := by
    cases hz' : (C.P.info? e).bind (·.zero) with
    | none => simp [zeroCells, hz'] at b4; omega
    | some z => exact ⟨z, rfl⟩
  have hiz : i.zero = some z := by simpa [hi] using hz'
  have hzr := zeroCells_rel m hz'
  have hzs : z.cells.size = C.P.cellsOf e := by have := hzr.len; simp at this; omega
  have hparts : ∀ p ∈ parts.toList, VR m (opd env p.2) (a.eval p.2) := fun p hp => ha p.2 (by simp [ho, Op.operands]; exact ⟨p.1, by simpa using hp⟩)
  obtain ⟨vs', h1, h2⟩ := fill_rel parts.toList _ _ cs (zerosN_rel hzr (by omega) (n * C.P.cellsOf e)) hcs hparts
  obtain ⟨h3, h4⟩ := packN_rel n h2 hxs
  have hmap : (parts.map fun (x : Nat × Operand) => (x.1, a.eval x.2)).toList = parts.toList.map fun p => (p.1, a.eval p.2) := by simp
  have hrun := run_buildSlice (P := C.P) m.w T e n (parts.map fun (x : Nat × Operand) => (x.1, a.eval x.2)) vs' i z hT hi hiz (by rw [hs]; omega) (by rw [hs]; exact Nat.mul_ne_zero (by omega) (by omega)) (by rw [hmap, hs, ← h1])
  have hnew := heap_alloc_new m.w (.cells vs' e)
  have hg := alloc_grown m.w (.cells vs' e)
  let m' : Mem := { m with N := fun b => m.N b ∨ b = m.w.heap.size, w := m.w.alloc (.cells vs' e) }
  have hsz : m.w.heap.size < (m.w.alloc (.cells vs' e)).heap.size := (Array.getElem?_eq_some_iff.1 hnew).1
  have he : Ext m m' := ⟨fun _ _ h => .inl h, fun _ h => .inl h, fun _ h => h, fun b hb => hg.block b (hm.lt b hb) (by simp)⟩
  have hmr : MR base w0 N0 m' O' := by
    refine ⟨hm.below.grown hg hm.bsz (by simp), Nat.le_trans hm.bsz hg.size, ?_, ?_, ?_, hm.inj, ?_, hm.dead⟩
    · rintro b (q | rfl)
      · exact Nat.lt_of_lt_of_le (hm.lt b q) hg.size
      · exact hsz
    · rintro b (q | rfl)
      · exact hm.nBase b q
      · exact .inr hm.bsz
    · intro k v b hk hv
      obtain ⟨q1, q2, q3⟩ := hm.nN k v b hk hv
      refine ⟨?_, q2, Nat.lt_of_lt_of_le q3 hg.size⟩
      rintro (q | rfl)
      · exact q1 q
      · omega
    · intro k v hk
      obtain ⟨B, q1, q2⟩ := hm.blk k v hk
      exact ⟨B, q1, BR.keep he B v (fun b hb => hg.block b (hm.nN k v b hk hb).2.2 (by simp)) q2⟩
  have hval : VR m' (.dat (.sl c) xs) (.slice (some ⟨m.w.heap.size, 0, none⟩) n n) := by
    refine dat_sl ⟨_, n, n, rfl, h3.symm, Nat.le_refl _, by unfold maxLen; have := Nat.le_mul_of_pos_right n b1; omega, .inr ⟨m.w.heap.size, 0, rfl, .inr rfl, fun j x hx => ?_⟩⟩
    have hrow := RowRep.keep he.N he.keep c xs _ h4
    exact row_rep hrow (by simpa using range_of_block hnew 0) j x hx
  have hrun' : (execOp a.eval o).run C.P m.w = .ok (.value (.slice (some ⟨m.w.heap.size, 0, none⟩) n n)) (m.w.alloc (.cells vs' e)) := by
    simp only [execOp, ho, Sem.run_bind, hrun, Result.andThen_ok, Sem.run_pure]
  exact wp_value hrun' (hX _ m' he hmr hval (fun _ _ h => .inl h) (fun k hk => by simp at hk))
end
end Go.AM
