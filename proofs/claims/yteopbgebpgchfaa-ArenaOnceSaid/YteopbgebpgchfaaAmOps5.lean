/- DERIVED. NO CLAIM IN IT. The operations that read, reckon and make, part 5: new variables, literals. -/
import Derived.Test.YteopbgebpgchfaaAmOps4
import Derived.Great.BuildSlice
set_option linter.unusedVariables false
set_option linter.unusedSimpArgs false
namespace Go.AM
open Go.RowKit
section
variable {R : Type} {C : Ctx} {o : Oper} {env : Env} {O : Heap} {nx : Nat} {W : Option R} {K : DV → List Blk → Option R} {r : R}

theorem packN_rel {m : Mem} {t : Ty} : ∀ (n : Nat) {cs : List DV} {vs : List Value} {xs : List (El t)}, VRL m cs vs → packN t n cs = some xs → xs.length = n ∧ RowRep m.N m.w t xs vs
  | 0, [], vs, xs, h, k => by simp [packN] at k; subst k; simp only [VRL] at h; subst h; simp [RowRep]
  | 0, _ :: _, _, _, _, k => by simp [packN] at k
  | n + 1, cs, vs, xs, h, k => by
    simp only [packN] at k
    split at k
    · rename_i x q hx
      split at k
      · rename_i ys hy
        simp at k
        subst k
        obtain ⟨c1, c2, rfl, h1, h2⟩ := pk_rel t cs vs x q h hx
        obtain ⟨h3, h4⟩ := packN_rel n h2 hy
        exact ⟨by simp [h3], c1, c2, rfl, h1, h4⟩
      · simp at k
    · simp at k

/-- A new variable. -/
theorem varBlk_rel {P : Program} {T : TypeId} {m : Mem} {cs : List DV} {vs : Array Value} (hl : VRL m cs vs.toList) :
    ∃ hd, (∀ b, hblk hd = some b → b = m.w.heap.size) ∧ ∀ nx, m.ρ nx = none → (Ext m (m.add nx hd (m.w.alloc (.cells vs T))) → BR (m.add nx hd (m.w.alloc (.cells vs T))) (varBlk P T cs) hd) ∧
      VR (m.add nx hd (m.w.alloc (.cells vs T))) (.ptr nx 0) (.pointer (some ⟨m.w.heap.size, 0, none⟩)) ∧ varBlk P T cs ≠ .dead := by
  have new : ∀ (n : Nat) (h : Value), (m.add n h (m.w.alloc (.cells vs T))).w.heap[m.w.heap.size]? = some (.cells vs T (0, 0)) := fun n h => heap_alloc_new m.w _
  have cells : ∃ hd, (∀ b, hblk hd = some b → b = m.w.heap.size) ∧ ∀ nx, m.ρ nx = none → (Ext m (m.add nx hd (m.w.alloc (.cells vs T))) → BR (m.add nx hd (m.w.alloc (.cells vs T))) (.cells T cs) hd) ∧
      VR (m.add nx hd (m.w.alloc (.cells vs T))) (.ptr nx 0) (.pointer (some ⟨m.w.heap.size, 0, none⟩)) ∧ Blk.cells T cs ≠ .dead := by
    refine ⟨.pointer (some ⟨m.w.heap.size, 0, none⟩), by simp [hblk], fun nx hn => ⟨fun he => ⟨m.w.heap.size, vs, rfl, new _ _, VRL.keep he cs _ hl⟩, ?_, by simp⟩⟩
    simp only [VR]
    exact .inr ⟨m.w.heap.size, .inl (by simp [Mem.add]), rfl⟩
  unfold varBlk
  split
  · rename_i n e hT
    split
    · rename_i c hc
      split
      · rename_i xs hx
        cases hz : Nat.beq (csz c) (P.cellsOf e) && Nat.blt 0 n <;> simp only [cond_true, cond_false]
        · exact cells
        · simp only [Bool.and_eq_true, Nat.blt_eq] at hz
          obtain ⟨h1, h2⟩ := packN_rel n hl hx
          refine ⟨.slice (some ⟨m.w.heap.size, 0, none⟩) n n, ?_, fun nx hn => ⟨fun he => ⟨m.w.heap.size, vs, by rw [h1], by omega, new _ _, RowRep.keep he.N he.keep c xs _ h2⟩, ?_, by simp⟩⟩
          · intro b hb
            simp [hblk] at hb
            exact hb.2.symm
          · simp only [VR]
            exact .inr ⟨m.w.heap.size, .inr ⟨n, hz.2, by simp [Mem.add]⟩, rfl⟩
      · exact cells
    · exact cells
  · exact cells

theorem varBlk_nd (P : Program) (T : TypeId) (cs : List DV) : varBlk P T cs ≠ .dead := by
  unfold varBlk
  split
  · split
    · split
      · rename_i n e _ _ c _ _ xs _
        cases Nat.beq (csz c) (P.cellsOf e) && Nat.blt 0 n <;> simp
      · simp
    · simp
  · simp

theorem done_alloc {T : TypeId} (ho : o.op = .alloc T) (h : evR C o env O nx W K = some r) : Done C o env O nx W K r := by
  simp only [evR, ho] at h
  cases hc : Nat.beq (zeroCells C.P T).length (C.P.cellsOf T) && Nat.blt 0 (C.P.cellsOf T) <;> simp only [hc, cond_true, cond_false] at h
  · simp at h
  simp only [Bool.and_eq_true, Nat.blt_eq] at hc
  have h1 := Nat.eq_of_beq_eq_true hc.1
  obtain ⟨z, hz⟩ : ∃ z, (C.P.info? T).bind (·.zero) = some z := by
    cases hz : (C.P.info? T).bind (·.zero) with
    | none => simp [zeroCells, hz] at h1; omega
    | some z => exact ⟨z, rfl⟩
  obtain ⟨i, hi, hiz⟩ := Option.bind_eq_some_iff.1 hz
  refine .inr ⟨_, _, by simpa using varBlk_nd _ _ _, ?_, h⟩
  refine OpOK.one fun base w0 N0 m O' a hm ha hO hn => ?_
  obtain ⟨hd, h2, h3⟩ := varBlk_rel (P := C.P) (T := T) (vs := z.cells) (zeroCells_rel m hz)
  obtain ⟨h4, h5, h6⟩ := h3 nx hn
  refine ⟨_, hd, m.w.alloc (.cells z.cells T), ?_, alloc_grown _ _, ?_, h4, h5⟩
  · simp [execOp, ho, Instr.alloc, zeroValue, typeInfo, hi, hiz, newVar, newRow]
  · intro b hb
    have := h2 b hb
    subst this
    simp

theorem done_box {T : TypeId} {x : Operand} (ho : o.op = .box T x) (h : evR C o env O nx W K = some r) : Done C o env O nx W K r := by
  simp only [evR, ho] at h
  cases hc : sized (opd env x) (C.P.cellsOf T) <;> simp only [hc, cond_true, cond_false] at h
  · simp at h
  refine .inr ⟨_, _, by simpa using varBlk_nd _ _ _, ?_, h⟩
  refine OpOK.one fun base w0 N0 m O' a hm ha hO hn => ?_
  obtain ⟨h1, _, _⟩ := sized_rel hc (ha x (by simp [ho, Op.operands]))
  obtain ⟨hd, h2, h3⟩ := varBlk_rel (P := C.P) (T := T) (vs := (a.eval x).cells) h1
  obtain ⟨h4, h5, h6⟩ := h3 nx hn
  refine ⟨_, hd, m.w.alloc (.cells (a.eval x).cells T), ?_, alloc_grown _ _, ?_, h4, h5⟩
  · simp [execOp, ho, Instr.box, newVar, newRow]
  · intro b hb
    have := h2 b hb
    subst this
    simp

theorem set_toList (off : Nat) (l : List Value) (cs : Array Value) (h : off + l.length ≤ cs.size) :
    ((l.zipIdx 0).foldl (fun cs (x : Value × Nat) => cs.setIfInBounds (off + x.2) x.1) cs).toList = cs.toList.take off ++ (l ++ cs.toList.drop (off + l.length)) := by
  obtain ⟨h1, h2⟩ := Great.foldl_set off l 0 cs
  apply List.ext_getElem?
  intro k
  have := h2 k
  simp only [Array.getElem?_toList, this, Nat.add_zero]
  have hl : cs.toList.length = cs.size := by simp
  by_cases hA : k < off
  · rw [if_neg (by omega), List.getElem?_append_left (by simp; omega), List.getElem?_take, if_pos hA]
    simp
  · rw [List.getElem?_append_right (by simp; omega)]
    have e : (List.take off cs.toList).length = off := by simp; omega
    rw [e]
    by_cases hB : k < off + l.length
    · rw [if_pos ⟨by omega, hB, by omega⟩, List.getElem?_append_left (by omega)]
    · rw [if_neg (by omega), List.getElem?_append_right (by omega), List.getElem?_drop]
      rw [show off + l.length + (k - off - l.length) = k by omega]
      simp

theorem fill_rel {m : Mem} {place : Nat → Option (Nat × Nat)} {env : Env} {a : Act} : ∀ (parts : List (Nat × Operand)) (cs : List DV) (vs : Array Value) (cs' : List DV),
    VRL m cs vs.toList → fillD place cs (parts.map fun p => (p.1, opd env p.2)) = some cs' → (∀ p ∈ parts, VR m (opd env p.2) (a.eval p.2)) →
    ∃ vs', Instr.fill place vs (parts.map fun p => (p.1, a.eval p.2)) = some vs' ∧ VRL m cs' vs'.toList
  | [], cs, vs, cs', h, k, _ => by
    simp [fillD] at k
    subst k
    exact ⟨vs, rfl, h⟩
  | (i, x) :: r, cs, vs, cs', h, k, hv => by
    simp only [List.map_cons, fillD] at k
    split at k
    · simp at k
    · rename_i off sz hp
      cases hc : sized (opd env x) sz && Nat.ble (off + sz) cs.length <;> simp only [hc, cond_true, cond_false] at k
      · simp at k
      simp only [Bool.and_eq_true, Nat.ble_eq] at hc
      obtain ⟨h1, h2, h3⟩ := sized_rel hc.1 (hv (i, x) (by simp))
      have hlen : cs.length = vs.size := by simpa using h.len
      have hl : (a.eval x).cells.toList.length = sz := by simpa using h3
      have hset := set_toList off (a.eval x).cells.toList vs (by omega)
      rw [hl] at hset
      have hrel : VRL m (cs.take off ++ (cellsOf (opd env x) ++ cs.drop (off + sz))) (((a.eval x).cells.toList.zipIdx 0).foldl (fun cs (y : Value × Nat) => cs.setIfInBounds (off + y.2) y.1) vs).toList := by
        rw [hset]
        exact (VRL.take off h).append (h1.append (VRL.drop _ h))
      obtain ⟨vs', h4, h5⟩ := fill_rel r _ _ cs' hrel k (fun p hp => hv p (by simp [hp]))
      refine ⟨vs', ?_, h5⟩
      simp only [List.map_cons]
      unfold Instr.fill
      simp only [hp]
      rw [if_neg (by rw [h3]; simp; omega), ← h4]
      congr 1
      rw [← Array.foldl_toList, Array.toList_zipIdx]

theorem places_map {P : Program} : ∀ (fs : List Field), (fs.all fun f => (P.underlying f.type).isSome) = true →
    fs.mapM (fun f => (P.info? f.type).map fun i => (f.offset, i.size)) = some (fs.map fun f => (f.offset, P.cellsOf f.type))
  | [], _ => by simp
  | f :: r, h => by
    simp only [List.all_cons, Bool.and_eq_true] at h
    obtain ⟨d, hd⟩ := Option.isSome_iff_exists.1 h.1
    obtain ⟨i, hi⟩ := info_of_underlying hd
    simp [List.mapM_cons, places_map r h.2, hi, Program.cellsOf]

theorem done_build {T : TypeId} {parts : Array (Nat × Operand)} (ho : o.op = .build T parts) (h : evR C o env O nx W K = some r) : Done C o env O nx W K r := by
  simp only [evR, ho] at h
  cases hc : (C.P.info? T).isSome && fieldsOk C.P T && ((C.P.info? T).bind (·.zero)).isSome <;> simp only [hc, cond_true, cond_false] at h
  · simp at h
  simp only [Bool.and_eq_true] at hc
  obtain ⟨z, hz⟩ := Option.isSome_iff_exists.1 hc.2
  obtain ⟨i, hi, hiz⟩ := Option.bind_eq_some_iff.1 hz
  split at h
  · rename_i cs hcs
    refine Done.pure h fun base w0 N0 m O' a hm ha hO => ?_
    have hparts : ∀ p ∈ parts.toList, VR m (opd env p.2) (a.eval p.2) := fun p hp => ha p.2 (by simp [ho, Op.operands]; exact ⟨p.1, by simpa using hp⟩)
    obtain ⟨vs', h1, h2⟩ := fill_rel parts.toList _ z.cells cs (zeroCells_rel m hz) hcs hparts
    have hfk := hc.1.2
    unfold fieldsOk at hfk
    unfold placesOf at h1
    have hmap : (parts.map fun (x : Nat × Operand) => (x.1, a.eval x.2)).toList = parts.toList.map fun p => (p.1, a.eval p.2) := by simp
    have fin : C.P.built T (parts.map fun (x : Nat × Operand) => (x.1, a.eval x.2)).toList = some vs' := by
      unfold Program.built
      split at hfk
      · rename_i fs hT
        simp only [hT] at h1
        simp only [hi, hT, hiz, places_map fs.toList hfk, hmap]
        rw [← h1]
        congr 1
        funext x
        simp
      · rename_i n e hT
        obtain ⟨de, hde⟩ := Option.isSome_iff_exists.1 hfk
        obtain ⟨ie, hie⟩ := info_of_underlying hde
        simp only [hT] at h1
        simp only [hi, hT, hiz, hie, hmap]
        rw [← h1]
        simp [Program.cellsOf, hie]
      · simp at hfk
    refine ⟨.agg vs', ?_, mkAgg_rel C.P T h2⟩
    simp only [execOp, ho, Sem.run_bind, run_build m.w T _ vs' fin, Result.andThen_ok, Sem.run_pure]
  · simp at h

theorem own_lit {m : Mem} {e : TypeId} {c : Ty} {n : Nat} {xs : List (El c)} {vs : Array Value} (hn : 0 < n) (hm : n ≤ maxLen) (hl : xs.length = n) (hr : RowRep m.N m.w c xs vs.toList) (nx : Nat) (hfree : m.ρ nx = none) :
    let h := Value.slice (some ⟨m.w.heap.size, 0, none⟩) n n
    let w1 := m.w.alloc (.cells vs e)
    (∀ b, hblk h = some b → m.w.heap.size ≤ b ∧ b < w1.heap.size) ∧ (Ext m (m.add nx h w1) → BR (m.add nx h w1) (.row e c xs) h) ∧ VR (m.add nx h w1) (.sl nx) h := by
  intro h w1
  have hlen : vs.size = n * csz c := by have := hr.len; simpa [hl] using this
  refine ⟨?_, fun he => ?_, ?_⟩
  · intro b hb
    simp only [h, hblk] at hb
    split at hb
    · simp at hb
    · simp at hb; subst hb; simp [w1]
  · refine ⟨vs.toList, ⟨_, n, by rw [hl], by simpa [hl] using hlen, .inr ⟨m.w.heap.size, vs, rfl, hn, heap_alloc_new m.w _, by omega, hm, hlen, ?_⟩⟩, RowRep.keep he.N he.keep c xs _ hr⟩
    rw [hl, ← hlen]
    exact List.take_of_length_le (by simp)
  · simp only [VR]
    exact .inr ⟨by simp [Mem.add, h], rfl⟩

theorem zerosN_rel {m : Mem} {zc : List DV} {zs : Array Value} (h : VRL m zc zs.toList) (h0 : 0 < zs.size) (n : Nat) : VRL m (zerosN zc n) ((Array.range n).map (zs[· % zs.size]!)).toList := by
  have hl : zc.length = zs.size := by simpa using h.len
  have := VRL.map (m := m) (fun i => zc.getD (i % zc.length) .un) (fun i => zs[i % zs.size]!) (List.range n) (fun i _ => by
    have hi : i % zc.length < zc.length := Nat.mod_lt _ (by omega)
    obtain ⟨v, h1, h2⟩ := VRL.get (i % zc.length) h (List.getElem?_eq_getElem hi)
    rw [hl] at h1
    have : zs[i % zs.size]! = v := by
      have h3 : zs[i % zs.size]? = some v := by simpa using h1
      simp [getElem!_def, h3]
    rw [this]
    simpa [List.getD_eq_getElem?_getD, List.getElem?_eq_getElem hi] using h2)
  simpa [zerosN] using this

theorem run_buildSlice0 {P : Program} (w : World) (T e : TypeId) (i : TypeInfo) (hT : P.underlying T = some (.slice e)) (hi : P.info? e = some i) :
    (Instr.buildSlice T 0 #[]).run P w = .ok (.slice (some ⟨w.heap.size, 0, none⟩) 0 0) (w.alloc (.cells #[] e)) := by
  have e0 : (Array.range 0).map (fun _ => (default : Value)) = #[] := by simp
  simp [Instr.buildSlice, run_underlying hT, sizeOf, typeInfo, hi, Instr.fill, newRow, e0]

theorem done_buildSlice {T : TypeId} {n : Nat} {parts : Array (Nat × Operand)} (ho : o.op = .buildSlice T n parts) (h : evR C o env O nx W K = some r) : Done C o env O nx W K r := by
  simp only [evR, ho] at h
  split at h
  · rename_i e hT
    split at h
    · rename_i c hc
      cases hn0 : Nat.beq n 0 <;> simp only [hn0, cond_true, cond_false] at h
      case true =>
        have hn0 := Nat.eq_of_beq_eq_true hn0
        subst hn0
        cases hp : parts.isEmpty && (C.P.info? e).isSome <;> simp only [hp, cond_true, cond_false] at h
        · simp at h
        simp only [Bool.and_eq_true, Array.isEmpty_iff] at hp
        obtain ⟨hp, hi⟩ := hp
        subst hp
        obtain ⟨i, hi⟩ := Option.isSome_iff_exists.1 hi
        refine .inr ⟨_, _, by simp, ?_, h⟩
        refine OpOK.one fun base w0 N0 m O' a hm ha hO hn => ?_
        refine ⟨.slice (some ⟨m.w.heap.size, 0, none⟩) 0 0, .slice (some ⟨m.w.heap.size, 0, none⟩) 0 0, m.w.alloc (.cells #[] e), ?_, alloc_grown _ _, ?_, fun he => ?_, ?_⟩
        · have := run_buildSlice0 (P := C.P) m.w T e i hT hi
          simp only [execOp, ho, Sem.run_bind]
          simp [this]
        · intro b hb; simp [hblk] at hb
        · exact ⟨[], ⟨_, 0, rfl, by simp, .inl ⟨rfl, rfl⟩⟩, by simp [RowRep]⟩
        · simp only [VR]
          exact .inr ⟨by simp [Mem.add], rfl⟩
      cases hb : Nat.blt 0 (C.P.cellsOf e) && Nat.blt 0 n && Nat.ble (n * C.P.cellsOf e) 16777216 && Nat.beq (zeroCells C.P e).length (C.P.cellsOf e) <;> simp only [hb, cond_true, cond_false] at h
      · simp at h
      simp only [Bool.and_eq_true, Nat.blt_eq, Nat.ble_eq] at hb
      obtain ⟨⟨⟨b1, b2⟩, b3⟩, b4⟩ := hb
      have b4 := Nat.eq_of_beq_eq_true b4
      split at h
      · rename_i cs hcs
        split at h
        · rename_i xs hxs
          cases hz : Nat.beq (csz c) (C.P.cellsOf e) <;> simp only [hz, cond_true, cond_false] at h
          · simp at h
          refine .inr ⟨_, _, by simp, ?_, h⟩
          refine OpOK.one fun base w0 N0 m O' a hm ha hO hn => ?_
          obtain ⟨i, hi, hs⟩ := info_of_cells b1
          obtain ⟨z, hz'⟩ : ∃ z, (C.P.info? e).bind (·.zero) = some z := by
            cases hz' : (C.P.info? e).bind (·.zero) with
            | none => simp [zeroCells, hz'] at b4; omega
            | some z => exact ⟨z, rfl⟩
          have hiz : i.zero = some z := by simpa [hi] using hz'
          have hzr := zeroCells_rel m hz'
          have hzs : z.cells.size = C.P.cellsOf e := by have := hzr.len; simp at this; omega
          have hparts : ∀ p ∈ parts.toList, VR m (opd env p.2) (a.eval p.2) := fun p hp => ha p.2 (by simp [ho, Op.operands]; exact ⟨p.1, by simpa using hp⟩)
          obtain ⟨vs', h1, h2⟩ := fill_rel parts.toList _ _ cs (zerosN_rel hzr (by omega) (n * C.P.cellsOf e)) hcs hparts
          obtain ⟨h3, h4⟩ := packN_rel n h2 hxs
          obtain ⟨g1, g2, g3⟩ := own_lit (e := e) b2 (by unfold maxLen; have := Nat.le_mul_of_pos_right n b1; omega) h3 h4 nx hn
          refine ⟨_, _, _, ?_, alloc_grown _ _, g1, g2, g3⟩
          have hmap : (parts.map fun (x : Nat × Operand) => (x.1, a.eval x.2)).toList = parts.toList.map fun p => (p.1, a.eval p.2) := by simp
          have := run_buildSlice (P := C.P) m.w T e n (parts.map fun (x : Nat × Operand) => (x.1, a.eval x.2)) vs' i z hT hi hiz (by rw [hs]; omega) (by rw [hs]; exact Nat.mul_ne_zero (by omega) (by omega)) (by rw [hmap, hs, ← h1])
          simp only [execOp, ho, Sem.run_bind, this, Result.andThen_ok, Sem.run_pure]
        · exact .inl h
      · simp at h
    · simp at h
  · simp at h
end
end Go.AM
