/- DERIVED. NO CLAIM IN IT. The operations that read, reckon and make, part 4: structs, variables, literals. -/
import Derived.Test.YteopbgebpgchfaaAmOps3
set_option linter.unusedVariables false
set_option linter.unusedSimpArgs false
namespace Go.AM
open Go.RowKit
section
variable {R : Type} {C : Ctx} {o : Oper} {env : Env} {O : Heap} {nx : Nat} {W : Option R} {K : DV → List Blk → Option R} {r : R}

theorem sizeOf_run {P : Program} {t : TypeId} {d : TypeDesc} (hu : P.underlying t = some d) (w : World) : (sizeOf t).run P w = .ok (P.cellsOf t) w := by
  obtain ⟨i, hi⟩ := info_of_underlying hu
  simp [sizeOf, typeInfo, hi, Program.cellsOf]

theorem part_rel {m : Mem} {P : Program} {t : TypeId} {cs : List DV} {vs : Array Value} {off : Nat} (h : VRL m cs vs.toList) (hd : (P.underlying t).isSome = true) (hu : isUn (partD P t cs off) = false) :
    ∃ v, (part t vs off).run P m.w = .ok v m.w ∧ VR m (partD P t cs off) v := by
  obtain ⟨d, hd⟩ := Option.isSome_iff_exists.1 hd
  unfold part
  rw [Sem.run_bind, isAgg_run hd]
  simp only [Result.andThen_ok]
  unfold partD mkVal at hu ⊢
  cases hg : aggT P t with
  | true =>
    simp only [if_true, cond_true, Sem.run_bind, sizeOf_run hd, Result.andThen_ok, Sem.run_pure]
    refine ⟨_, rfl, mkAgg_rel P t ?_⟩
    have := (VRL.drop off h).take (P.cellsOf t)
    simpa [Array.toList_extract, List.extract_eq_take_drop] using this
  | false =>
    simp only [hg, cond_false] at hu ⊢
    split at hu
    · rename_i d1 hd1
      have h1 := (VRL.drop off h).take (P.cellsOf t)
      rw [hd1] at h1
      have hoff : cs[off]? = some d1 := by
        have := congrArg (fun l => l[0]?) hd1
        simp [List.getElem?_take] at this
        exact this.2
      obtain ⟨v, hv, hvr⟩ := VRL.get off h hoff
      refine ⟨v, ?_, hvr⟩
      have : vs[off]? = some v := by simpa using hv
      simp [this]
    · simp [isUn] at hu

theorem isAggD_rel {m : Mem} {d : DV} {v : Value} (h : isAggD d = true) (hv : VR m d v) : ∃ vs, v = .agg vs ∧ VRL m (cellsOf d) vs.toList := by
  cases d with
  | dat t x =>
    cases t with
    | st f =>
      obtain ⟨cs, h1, rfl⟩ := of_st hv
      exact ⟨_, rfl, by simpa [cellsOf] using unp_rel f x cs h1⟩
    | _ => simp [isAggD] at h
  | agg cs =>
    simp only [VR] at hv
    obtain ⟨vs, h1, h2⟩ := hv
    exact ⟨vs, h1, by simpa [cellsOf] using h2⟩
  | _ => simp [isAggD] at h

theorem done_field {T : TypeId} {x : Operand} {f : Nat} (ho : o.op = .field T x f) (h : evR C o env O nx W K = some r) : Done C o env O nx W K r := by
  simp only [evR, ho] at h
  split at h
  · rename_i fs hT
    split at h
    · rename_i fl hfl
      cases hu : isAggD (opd env x) && (C.P.underlying fl.type).isSome && !isUn (partD C.P fl.type (cellsOf (opd env x)) fl.offset) <;> simp only [hu, cond_true, cond_false] at h
      · simp at h
      simp only [Bool.and_eq_true, Bool.not_eq_true'] at hu
      refine Done.pure h fun base w0 N0 m O' a hm ha hO => ?_
      obtain ⟨vs, h1, h2⟩ := isAggD_rel hu.1.1 (ha x (by simp [ho, Op.operands]))
      obtain ⟨v, h3, h4⟩ := part_rel h2 hu.1.2 hu.2
      exact ⟨v, by simp [execOp, ho, h1, Instr.field, run_underlying hT, hfl, asAgg, h3], h4⟩
    · simp at h
  · simp at h

theorem done_index {T : TypeId} {x i : Operand} (ho : o.op = .index T x i) (h : evR C o env O nx W K = some r) : Done C o env O nx W K r := by
  simp only [evR, ho] at h
  split at h
  · rename_i n e k hT hi
    cases hu : isAggD (opd env x) && (C.P.underlying e).isSome && decide (0 ≤ k) && decide (k < (n : Int)) && !isUn (partD C.P e (cellsOf (opd env x)) (k.toNat * C.P.cellsOf e)) <;> simp only [hu, cond_true, cond_false] at h
    · simp at h
    simp only [Bool.and_eq_true, Bool.not_eq_true', decide_eq_true_eq] at hu
    refine Done.pure h fun base w0 N0 m O' a hm ha hO => ?_
    obtain ⟨vs, h1, h2⟩ := isAggD_rel hu.1.1.1.1 (ha x (by simp [ho, Op.operands]))
    obtain ⟨v, h3, h4⟩ := part_rel h2 hu.1.1.1.2 hu.2
    have h5 : ∃ q, a.eval i = .int q k := by
      have := ha i (by simp [ho, Op.operands])
      unfold intOf? at hi
      split at hi
      · rename_i q y hq
        simp at hi
        subst hi
        rw [hq] at this
        exact ⟨q, of_int this⟩
      · simp at hi
    obtain ⟨q, h5⟩ := h5
    obtain ⟨d, hd⟩ := Option.isSome_iff_exists.1 hu.1.1.1.2
    refine ⟨v, ?_, h4⟩
    simp [execOp, ho, h1, h5, Instr.index, run_underlying hT, asIntOf, hu.1.1.2, hu.1.2, sizeOf_run hd, h3]
  · simp at h

theorem intOf_rel {m : Mem} {d : DV} {v : Value} {n : Int} (h : intOf? d = some n) (hv : VR m d v) : ∃ k, v = .int k n := by
  unfold intOf? at h
  split at h
  · rename_i k y
    simp at h
    subst h
    exact ⟨k, of_int hv⟩
  · simp at h

theorem done_fieldAddr {T : TypeId} {x : Operand} {f : Nat} (ho : o.op = .fieldAddr T x f) (h : evR C o env O nx W K = some r) : Done C o env O nx W K r := by
  simp only [evR, ho] at h
  split at h
  · rename_i fs hT
    split at h
    · rename_i fl hfl
      split at h
      · rename_i d hd
        cases hz : Nat.beq (C.P.cellsOf fl.type) 0 <;> simp only [hz, cond_true, cond_false] at h
        · cases hl : ptrOk O (opd env x) <;> simp only [hl, cond_true, cond_false] at h
          · simp at h
          have hz : C.P.cellsOf fl.type ≠ 0 := fun e => by rw [e] at hz; simp at hz
          obtain ⟨i, hi, hs⟩ := info_of_cells (Nat.pos_of_ne_zero hz)
          have hsz : ∀ w, (sizeOf fl.type).run C.P w = .ok (C.P.cellsOf fl.type) w := fun w => by simp [sizeOf, typeInfo, hi, hs]
          refine Done.pure h fun base w0 N0 m O' a hm ha hO => ?_
          have hx := ha x (by simp [ho, Op.operands])
          have fin : ∀ b q, a.eval x = .pointer (some ⟨b, q, none⟩) → (execOp a.eval o).run C.P m.w = .ok (.value (.pointer (some ⟨b, q + fl.offset, none⟩))) m.w := by
            intro b q e
            simp [execOp, ho, e, Instr.fieldAt, run_underlying hT, hfl, Instr.sureAddr, fieldPlace, hsz, hz, Addr.add_mid]
          revert hd hl hx
          generalize opd env x = dx
          intro hd hl hx
          cases dx with
          | ptr n off =>
            simp only [addrOff, Option.some.injEq] at hd
            subst hd
            simp only [VR] at hx
            rcases hx with hx | ⟨b, h1, h2⟩
            · exact (live_get hl hm hO hx.1).elim
            · refine ⟨_, fin b off h2, ?_⟩
              simp only [VR]
              exact .inr ⟨b, h1, rfl⟩
          | fp t y off =>
            simp only [addrOff, Option.some.injEq] at hd
            subst hd
            simp only [VR] at hx
            obtain ⟨b, q, cs, h1, h2, h3, h4⟩ := hx
            refine ⟨_, fin b _ h4, ?_⟩
            simp only [VR]
            exact ⟨b, q, cs, h1, h2, h3, by simp [Nat.add_assoc]⟩
          | ep n z i off =>
            simp only [addrOff, Option.some.injEq] at hd
            subst hd
            simp only [VR] at hx
            rcases hx with hx | ⟨b, len, cap, h1, h2, h3, h4⟩
            · exact (live_get hl hm hO hx.1).elim
            · refine ⟨_, fin b _ h4, ?_⟩
              simp only [VR]
              exact .inr ⟨b, len, cap, h1, h2, h3, by simp [Nat.add_assoc]⟩
          | _ => simp [addrOff] at hd
        · simp at h
      · simp at h
    · simp at h
  · simp at h
end
end Go.AM
