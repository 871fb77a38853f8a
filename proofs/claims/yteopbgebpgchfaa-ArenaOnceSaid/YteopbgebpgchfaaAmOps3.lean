/- DERIVED. NO CLAIM IN IT. The operations that read, reckon and make, part 3: memory. -/
import Derived.Test.YteopbgebpgchfaaAmOps2
set_option linter.unusedVariables false
set_option linter.unusedSimpArgs false
namespace Go.AM
open Go.RowKit

def Mem.add (m : Mem) (n : Nat) (h : Value) (w : World) : Mem := { m with ρ := fun k => if k = n then some h else m.ρ k, w := w }

theorem Mem.add_ext {m : Mem} {n : Nat} {h : Value} {w : World} {base : Nat} {w0 : World} {N0 : Nat → Prop} {O : Heap} (hm : MR base w0 N0 m O) (hn : m.ρ n = none) (hg : m.w.grownBy w none) : Ext m (m.add n h w) := by
  refine ⟨fun k v hk => .inl ?_, fun _ h => h, fun _ h => h, fun b hb => hg.block b (hm.lt b hb) (by simp)⟩
  have : k ≠ n := by rintro rfl; rw [hn] at hk; simp at hk
  simpa [Mem.add, this] using hk

theorem Mem.add_MR {m : Mem} {n : Nat} {h : Value} {w : World} {base : Nat} {w0 : World} {N0 : Nat → Prop} {O : Heap} (hm : MR base w0 N0 m O) (hn : m.ρ n = none) (hg : m.w.grownBy w none)
    (hb : ∀ b, hblk h = some b → m.w.heap.size ≤ b ∧ b < w.heap.size) {B : Blk} (hO : O[n]? = some B) (hB : BR (m.add n h w) B h) : MR base w0 N0 (m.add n h w) O := by
  have he := Mem.add_ext (h := h) hm hn hg
  have old : ∀ k v, (m.add n h w).ρ k = some v → k = n ∧ v = h ∨ k ≠ n ∧ m.ρ k = some v := by
    intro k v hk
    by_cases e : k = n
    · subst e; left; simp [Mem.add] at hk; exact ⟨rfl, hk.symm⟩
    · right; exact ⟨e, by simpa [Mem.add, e] using hk⟩
  refine ⟨?_, ?_, ?_, hm.nBase, ?_, ?_, ?_, hm.dead⟩
  · exact hm.below.grown hg hm.bsz (by simp)
  · exact Nat.le_trans hm.bsz hg.size
  · exact fun b hb => Nat.lt_of_lt_of_le (hm.lt b hb) hg.size
  · intro k v b hk hv
    rcases old k v hk with ⟨rfl, rfl⟩ | ⟨hk', hkm⟩
    · obtain ⟨h1, h2⟩ := hb b hv
      exact ⟨fun hN => by have := hm.lt b hN; omega, Nat.le_trans hm.bsz h1, h2⟩
    · obtain ⟨h1, h2, h3⟩ := hm.nN k v b hkm hv
      exact ⟨h1, h2, Nat.lt_of_lt_of_le h3 hg.size⟩
  · intro k j v u b hk hj hv hu
    rcases old k v hk with ⟨rfl, rfl⟩ | ⟨hk', hkm⟩ <;> rcases old j u hj with ⟨rfl, rfl⟩ | ⟨hj', hjm⟩
    · rfl
    · have := (hm.nN j u b hjm hu).2.2
      have := (hb b hv).1
      omega
    · have := (hm.nN k v b hkm hv).2.2
      have := (hb b hu).1
      omega
    · exact hm.inj k j v u b hkm hjm hv hu
  · intro k v hk
    rcases old k v hk with ⟨rfl, rfl⟩ | ⟨hk', hkm⟩
    · exact ⟨B, hO, hB⟩
    · obtain ⟨B', h1, h2⟩ := hm.blk k v hkm
      exact ⟨B', h1, BR.keep he B' v (fun b hb => hg.block b (hm.nN k v b hkm hb).2.2 (by simp)) h2⟩

/-- What makes one block. -/
theorem OpOK.one {C : Ctx} {o : Oper} {env : Env} {O : Heap} {nx : Nat} {d : DV} {B : Blk}
    (h : ∀ (base : Nat) (w0 : World) (N0 : Nat → Prop) (m : Mem) (O' : Heap) (a : Act), MR base w0 N0 m O' → (∀ x ∈ o.op.operands, VR m (opd env x) (a.eval x)) →
      (∀ (n : Nat) B, B ≠ Blk.dead → O[n]? = some B → O'[n]? = some B) → m.ρ nx = none → ∃ v hd w1, (execOp a.eval o).run C.P m.w = .ok (.value v) w1 ∧ m.w.grownBy w1 none ∧
        (∀ b, hblk hd = some b → m.w.heap.size ≤ b ∧ b < w1.heap.size) ∧ (Ext m (m.add nx hd w1) → BR (m.add nx hd w1) B hd) ∧ VR (m.add nx hd w1) d v) : OpOK C o env O nx d [B] := by
  intro base w0 N0 m O' a hm ha hO hnews hfree X hX
  have hn : m.ρ nx = none := by simpa using hfree 0 (by simp)
  obtain ⟨v, hd, w1, h1, h2, h3, h4, h5⟩ := h base w0 N0 m O' a hm ha hO hn
  have he := Mem.add_ext (h := hd) hm hn h2
  refine wp_value h1 ?_
  have := hX v (m.add nx hd w1) he (Mem.add_MR hm hn h2 h3 (by simpa using hnews 0 B (by simp)) (h4 he)) h5 ?_ ?_
  · exact this
  · intro n u hu
    by_cases e : n = nx
    · exact .inr ⟨0, by simp, by simpa using e⟩
    · left; simpa [Mem.add, e] using hu
  · intro k hk
    obtain rfl : k = 0 := by simpa using hk
    exact ⟨hd, by simp [Mem.add]⟩

theorem alloc_grown (w : World) (o : Obj) : w.grownBy (w.alloc o) none := World.grownBy_alloc w o none

theorem info_of_underlying {P : Program} {t : TypeId} {d : TypeDesc} (h : P.underlying t = some d) : ∃ i, P.info? t = some i := by
  unfold Program.underlying at h
  cases hi : P.info? t with
  | none => simp [hi] at h
  | some i => exact ⟨i, rfl⟩

theorem info_of_cells {P : Program} {t : TypeId} (h : 0 < P.cellsOf t) : ∃ i, P.info? t = some i ∧ i.size = P.cellsOf t := by
  unfold Program.cellsOf at h ⊢
  cases hi : P.info? t with
  | none => simp [hi] at h
  | some i => exact ⟨i, rfl, by simp⟩

theorem range_of_block {w : World} {b : Nat} {vs : Array Value} {T : TypeId} {fr : Nat × Nat} (h : w.heap[b]? = some (.cells vs T fr)) (o : Nat) : w.rangeAt b o (vs.toList.drop o) := by
  intro j v hj
  rw [List.getElem?_drop] at hj
  simp [World.cell?, h]
  simpa using hj

theorem range_take {w : World} {b o n : Nat} {vs : List Value} (h : w.rangeAt b o vs) : w.rangeAt b o (vs.take n) := by
  intro j v hj
  rw [List.getElem?_take] at hj
  split at hj
  · exact h j v hj
  · simp at hj

theorem range_drop {w : World} {b o n : Nat} {vs : List Value} (h : w.rangeAt b o vs) : w.rangeAt b (o + n) (vs.drop n) := by
  intro j v hj
  rw [List.getElem?_drop] at hj
  have := h (n + j) v hj
  rwa [Nat.add_assoc]

theorem flatten_at {α : Type} {y : Nat} : ∀ {xs : List (List α)} {i : Nat} {cs : List α}, (∀ x ∈ xs, x.length = y) → xs[i]? = some cs → (xs.flatten.drop (i * y)).take y = cs
  | [], i, cs, _, h => by simp at h
  | x :: r, 0, cs, h, k => by
    simp at k
    subst k
    have := h x (by simp)
    simp [← this]
  | x :: r, i + 1, cs, h, k => by
    simp at k
    have hx := h x (by simp)
    have := flatten_at (fun z hz => h z (by simp [hz])) k
    have e : (i + 1) * y = x.length + i * y := by rw [hx, Nat.add_mul]; omega
    have e2 : (x ++ r.flatten).drop (x.length + i * y) = r.flatten.drop (i * y) := by simp [List.drop_append]
    rw [List.flatten_cons, e, e2]
    exact this

/-- The cells behind an address. -/
theorem cellsAt_rel {m : Mem} {base : Nat} {w0 : World} {N0 : Nat → Prop} {O O' : Heap} (hm : MR base w0 N0 m O') (hO : ∀ (n : Nat) B, B ≠ Blk.dead → O[n]? = some B → O'[n]? = some B)
    {d : DV} {v : Value} {sz : Nat} (hv : VR m d v) (h0 : 0 < sz) (hl : (cellsAt O sz d).length = sz) :
    ∃ b o vs, v = .pointer (some ⟨b, o, none⟩) ∧ m.w.rangeAt b o vs ∧ VRL m (cellsAt O sz d) vs := by
  have notdead : ∀ (n : Nat) B, O[n]? = some B → B ≠ .dead → ¬ m.D n := by
    intro n B hb hB hd
    have := (hm.dead n).1 hd
    rw [hO n B hB hb] at this
    simp at this
    exact hB this
  cases d with
  | ptr n off =>
    simp only [cellsAt] at hl ⊢
    split at hl
    · rename_i T cs hn
      simp only [VR] at hv
      rcases hv with hv | ⟨b, hr, rfl⟩
      · exact (notdead n _ hn (by simp) hv.1).elim
      · rcases hr with hr | ⟨k, _, hr⟩
        · obtain ⟨B, h1, h2⟩ := hm.blk n _ hr
          rw [hO n _ (by simp) hn] at h1
          simp at h1
          subst h1
          obtain ⟨b', vs, e, h3, h4⟩ := h2
          simp at e
          subst e
          exact ⟨b, off, _, rfl, range_take (range_of_block h3 off), (VRL.drop off h4).take sz⟩
        · obtain ⟨B, h1, h2⟩ := hm.blk n _ hr
          rw [hO n _ (by simp) hn] at h1
          simp at h1
          subst h1
          obtain ⟨b', vs, e, h3, h4⟩ := h2
          simp at e
    · simp at hl; omega
  | fp c x off =>
    simp only [cellsAt] at hl ⊢
    simp only [VR] at hv
    obtain ⟨b, o, ecs, h1, h2, h3, rfl⟩ := hv
    exact ⟨b, o + off, _, rfl, range_take (range_drop h3), ((unp_rel c x ecs h1).drop off).take sz⟩
  | ep n z i off =>
    simp only [cellsAt] at hl ⊢
    simp only [VR] at hv
    split at hl
    · rename_i e c xs hn
      cases hz : Nat.beq z (csz c) <;> simp only [hz, cond_true, cond_false] at hl ⊢
      · simp at hl; omega
      have hz := Nat.eq_of_beq_eq_true hz
      subst hz
      rcases hv with hv | ⟨b, len, cap, hr, hi0, hi1, rfl⟩
      · exact (notdead n _ hn (by simp) hv.1).elim
      obtain ⟨B, h1, h2⟩ := hm.blk n _ hr
      rw [hO n _ (by simp) hn] at h1
      simp at h1
      subst h1
      obtain ⟨vs, ⟨a, cap', e1, e2, h3⟩, h4⟩ := h2
      simp at e1
      obtain ⟨rfl, rfl, rfl⟩ := e1
      rcases h3 with ⟨_, h3⟩ | ⟨b', cur, e3, _, h5, _, _, h6, h7⟩
      · omega
      simp at e3
      subst e3
      obtain ⟨p, ecs, q, h8, h9, h10⟩ := RowRep.at_ i.toNat h4 (rd_get' (z := zel c) hi0 hi1)
      have hr : m.w.rangeAt b (i.toNat * csz c) ecs := by
        intro j v hj
        have := range_of_block h5 (i.toNat * csz c) j v
        apply this
        have hjl := (List.getElem?_eq_some_iff.1 hj).1
        have h11 : vs[i.toNat * csz c + j]? = some v := by
          rw [h8, List.getElem?_append_right (by omega), h9]
          simp [List.getElem?_append_left hjl, hj]
        rw [List.getElem?_drop]
        rw [← h7, List.getElem?_take] at h11
        split at h11
        · exact h11
        · simp at h11
      exact ⟨b, i.toNat * csz c + off, _, rfl, range_take (range_drop hr), ((unp_rel c _ ecs h10).drop off).take sz⟩
    · rename_i T c xs hn
      cases hz : Nat.beq z (csz c) <;> simp only [hz, cond_true, cond_false] at hl ⊢
      · simp at hl; omega
      have hz := Nat.eq_of_beq_eq_true hz
      subst hz
      rcases hv with hv | ⟨b, len, cap, hr, hi0, hi1, rfl⟩
      · exact (notdead n _ hn (by simp) hv.1).elim
      obtain ⟨B, h1, h2⟩ := hm.blk n _ hr
      rw [hO n _ (by simp) hn] at h1
      simp at h1
      subst h1
      obtain ⟨b', vs, e1, _, h5, h4⟩ := h2
      simp at e1
      obtain ⟨rfl, rfl, rfl⟩ := e1
      obtain ⟨p, ecs, q, h8, h9, h10⟩ := RowRep.at_ i.toNat h4 (rd_get' (z := zel c) hi0 hi1)
      have hr : m.w.rangeAt b (i.toNat * csz c) ecs := by
        intro j v hj
        have := range_of_block h5 (i.toNat * csz c) j v
        apply this
        have hjl := (List.getElem?_eq_some_iff.1 hj).1
        rw [List.getElem?_drop, h8, List.getElem?_append_right (by omega), h9]
        simp [List.getElem?_append_left hjl, hj]
      exact ⟨b, i.toNat * csz c + off, _, rfl, range_take (range_drop hr), ((unp_rel c _ ecs h10).drop off).take sz⟩
    · rename_i e y xs hn
      cases hz : Nat.beq z y <;> simp only [hz, cond_true, cond_false] at hl ⊢
      · simp at hl; omega
      have hz := Nat.eq_of_beq_eq_true hz
      subst hz
      rcases hv with hv | ⟨b, len, cap, hr, hi0, hi1, rfl⟩
      · exact (notdead n _ hn (by simp) hv.1).elim
      obtain ⟨B, h1, h2⟩ := hm.blk n _ hr
      rw [hO n _ (by simp) hn] at h1
      simp at h1
      subst h1
      obtain ⟨vs, ⟨a, cap', e1, e2, h3⟩, h4, hal⟩ := h2
      simp at e1
      obtain ⟨rfl, rfl, rfl⟩ := e1
      rcases h3 with ⟨_, h3⟩ | ⟨b', cur, e3, _, h5, _, _, h6, h7⟩
      · omega
      simp at e3
      subst e3
      have hget := rd_get' (z := ([] : List DV)) hi0 hi1
      have hfl := flatten_at hal hget
      have h8 := (VRL.drop (i.toNat * z) h4).take z
      rw [hfl] at h8
      have hr : m.w.rangeAt b (i.toNat * z) ((vs.drop (i.toNat * z)).take z) := by
        rw [← h7, List.drop_take, List.take_take]
        exact range_take (range_of_block h5 _)
      exact ⟨b, i.toNat * z + off, _, rfl, range_take (range_drop hr), (h8.drop off).take sz⟩
    · simp at hl; omega
  | _ => simp [cellsAt] at hl; omega

section
variable {R : Type} {C : Ctx} {o : Oper} {env : Env} {O : Heap} {nx : Nat} {W : Option R} {K : DV → List Blk → Option R} {r : R}

theorem isAgg_run {P : Program} {t : TypeId} {d : TypeDesc} (hu : P.underlying t = some d) (w : World) : (isAgg t).run P w = .ok (aggT P t) w := by
  unfold isAgg aggT
  rw [Sem.run_bind, run_underlying hu w, hu]
  cases d <;> simp

theorem done_load {T : TypeId} {x : Operand} (ho : o.op = .load T x) (h : evR C o env O nx W K = some r) : Done C o env O nx W K r := by
  simp only [evR, ho] at h
  cases hc : Nat.blt 0 (C.P.cellsOf T) && Nat.beq (cellsAt O (C.P.cellsOf T) (opd env x)).length (C.P.cellsOf T) && (aggT C.P T || Nat.beq (C.P.cellsOf T) 1) && (C.P.underlying T).isSome <;> simp only [hc, cond_true, cond_false] at h
  · simp at h
  simp only [Bool.and_eq_true, Nat.blt_eq] at hc
  obtain ⟨⟨⟨h0, h1⟩, h2⟩, h3⟩ := hc
  obtain ⟨du, hdu⟩ := Option.isSome_iff_exists.1 h3
  have h1 := Nat.eq_of_beq_eq_true h1
  refine Done.pure h fun base w0 N0 m O' a hm ha hO => ?_
  obtain ⟨b, of, vs, hv, hr, hl⟩ := cellsAt_rel hm hO (ha x (by simp [ho, Op.operands])) h0 h1
  obtain ⟨i, hi, hs⟩ := info_of_cells h0
  have hlen : vs.length = C.P.cellsOf T := by have := hl.len; omega
  cases hg : aggT C.P T with
  | true =>
    have hu : ∃ d, C.P.underlying T = some d ∧ d.isRow = true := by
      refine ⟨du, hdu, ?_⟩
      unfold aggT at hg
      rw [hdu] at hg
      cases du <;> simp_all
    obtain ⟨d, hu, hd⟩ := hu
    refine ⟨.agg vs.toArray, ?_, ?_⟩
    · have := run_loadAt_mid (P := C.P) m.w b of T vs d hr hu hd (by simp [hi]; omega)
      simp [execOp, ho, hv, this]
    · simp only [mkVal, hg, cond_true]
      exact mkAgg_rel C.P T (by simpa using hl)
  | false =>
    simp only [hg, Bool.false_or] at h2
    have h2 := Nat.eq_of_beq_eq_true h2
    obtain ⟨v, rfl⟩ : ∃ v, vs = [v] := by
      match vs, hlen with
      | [v], _ => exact ⟨v, rfl⟩
      | [], h => simp at h; omega
      | _ :: _ :: _, h => simp at h; omega
    obtain ⟨d', hd'⟩ : ∃ d, cellsAt O (C.P.cellsOf T) (opd env x) = [d] := by
      match hcs : cellsAt O (C.P.cellsOf T) (opd env x), h1 with
      | [d], _ => exact ⟨d, rfl⟩
      | [], h => simp at h; omega
      | _ :: _ :: _, h => simp at h; omega
    rw [hd'] at hl
    simp only [VRL] at hl
    obtain ⟨v', vr, e, hl1, hl2⟩ := hl
    simp at e
    obtain ⟨rfl, rfl⟩ := e
    have hcell : m.w.cell? ⟨b, of, none⟩ = some v := by simpa using hr 0 v (by simp)
    have hag : (isAgg T).run C.P m.w = .ok false m.w := by rw [isAgg_run hdu, hg]
    refine ⟨v, ?_, ?_⟩
    · simp [execOp, ho, hv, Instr.loadAt, Instr.sureAddr, loadVar, hag, hcell]
    · rw [hd']
      simpa only [mkVal, hg, cond_false] using hl1
end
end Go.AM
