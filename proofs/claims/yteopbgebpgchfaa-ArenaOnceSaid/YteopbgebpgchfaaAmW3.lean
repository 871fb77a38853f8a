/- DERIVED. NO CLAIM IN IT. The append that takes a row over; all operations that write. -/
import Derived.Test.YteopbgebpgchfaaAmWc
set_option linter.unusedVariables false
set_option linter.unusedSimpArgs false
namespace Go.AM
open Go.RowKit

theorem consume {base : Nat} {w0 : World} {N0 : Nat → Prop} {m : Mem} {O : Heap} (hm : MR base w0 N0 m O) {n : Nat} {h h' : Value} (hr : m.ρ n = some h) {w' : World} (hg : m.w.grownBy w' (hblk h))
    (hf : ∀ b, hblk h' = some b → hblk h = some b ∨ (m.w.heap.size ≤ b ∧ b < w'.heap.size)) {B : Blk} (hB : B ≠ .dead) (hbr : ∀ m', Ext m m' → m'.w = w' → m'.N = m.N → BR m' B h') :
    ∃ m', m'.w = w' ∧ Ext m m' ∧ MR base w0 N0 m' ((O.set n .dead) ++ [B]) ∧ m'.ρ O.length = some h' := by
  obtain ⟨B0, hO, hB0⟩ := hm.blk n h hr
  have hn : n < O.length := (List.getElem?_eq_some_iff.1 hO).1
  have hfree := hm.free 0
  simp only [Nat.add_zero] at hfree
  have hNb : ∀ k, m.N k → some k ≠ hblk h := fun k hk e => (hm.nN n h k hr e.symm).1 hk
  let m' : Mem := { ρ := fun k => if k = O.length then some h' else if k = n then none else m.ρ k, N := m.N, D := fun k => m.D k ∨ k = n, w := w' }
  have he : Ext m m' := by
    refine ⟨fun k v hk => ?_, fun _ h => h, fun _ h => .inl h, fun k hk => hg.block k (hm.lt k hk) (hNb k hk)⟩
    by_cases e : k = O.length
    · rw [e, hfree] at hk; simp at hk
    · by_cases e2 : k = n
      · exact .inr (.inr e2)
      · exact .inl (by simp [m', e, e2, hk])
  refine ⟨m', rfl, he, ?_, by simp [m']⟩
  have hold : ∀ k v, m'.ρ k = some v → (k = O.length ∧ v = h') ∨ (k ≠ O.length ∧ k ≠ n ∧ m.ρ k = some v) := by
    intro k v hk
    by_cases e : k = O.length
    · simp [m', e] at hk; exact .inl ⟨e, hk.symm⟩
    · by_cases e2 : k = n
      · simp only [m', e, e2, if_true, if_false] at hk
        split at hk
        · omega
        · simp at hk
      · simp [m', e, e2] at hk
        exact .inr ⟨e, e2, hk⟩
  have hbs := hm.bsz
  refine ⟨?_, Nat.le_trans hm.bsz hg.size, fun k hk => Nat.lt_of_lt_of_le (hm.lt k hk) hg.size, hm.nBase, ?_, ?_, ?_, fun k => ?_⟩
  · exact hm.below.grown hg hm.bsz (fun k hk => (hm.nN n h k hr hk).2.1)
  · intro k v b hk hb
    rcases hold k v hk with ⟨_, rfl⟩ | ⟨_, _, hk⟩
    · rcases hf b hb with q | q
      · have := hm.nN n h b hr q
        exact ⟨this.1, this.2.1, Nat.lt_of_lt_of_le this.2.2 hg.size⟩
      · exact ⟨fun hN => absurd (hm.lt b hN) (by omega), by omega, q.2⟩
    · have := hm.nN k v b hk hb
      exact ⟨this.1, this.2.1, Nat.lt_of_lt_of_le this.2.2 hg.size⟩
  · intro k l v u b hk hl hbk hbl
    have one : ∀ k v, m.ρ k = some v → k ≠ n → hblk v = some b → hblk h' = some b → False := by
      intro k v hk hkn hb hb'
      rcases hf b hb' with q | q
      · exact hkn (hm.inj k n v h b hk hr hb q)
      · have := (hm.nN k v b hk hb).2.2
        omega
    rcases hold k v hk with ⟨e1, q1⟩ | ⟨_, hkn, hk2⟩
    · rcases hold l u hl with ⟨e2, _⟩ | ⟨_, hln, hl2⟩
      · rw [e1, e2]
      · exact (one l u hl2 hln hbl (by rw [← q1]; exact hbk)).elim
    · rcases hold l u hl with ⟨e2, q2⟩ | ⟨_, hln, hl2⟩
      · exact (one k v hk2 hkn hbk (by rw [← q2]; exact hbl)).elim
      · exact hm.inj k l v u b hk2 hl2 hbk hbl
  · intro k v hk
    rcases hold k v hk with ⟨rfl, rfl⟩ | ⟨e1, e2, hk⟩
    · exact ⟨B, by simp, hbr m' he rfl rfl⟩
    · obtain ⟨B', h1, h2⟩ := hm.blk k v hk
      have hkl : k < O.length := (List.getElem?_eq_some_iff.1 h1).1
      refine ⟨B', ?_, BR.keep he B' v (fun b hb => hg.block b (hm.nN k v b hk hb).2.2 ?_) h2⟩
      · rw [List.getElem?_append_left (by simpa using hkl), List.getElem?_set_ne (Ne.symm e2)]
        exact h1
      · intro e
        exact e2 (hm.inj k n v h b hk hr hb e.symm)
  · show m.D k ∨ k = n ↔ _
    rw [hm.dead k]
    by_cases hkl : k < O.length
    · rw [List.getElem?_append_left (by simpa using hkl)]
      by_cases e : k = n
      · subst e; simp [hkl]
      · rw [List.getElem?_set_ne (Ne.symm e)]
        simp [e]
    · rw [List.getElem?_append_right (by simpa using hkl)]
      constructor
      · rintro (h | rfl)
        · rw [List.getElem?_eq_none (by omega)] at h; simp at h
        · omega
      · intro h
        have := List.mem_of_getElem? h
        simp at this
        exact (hB this.symm).elim

theorem append_types {ts : Array TypeId} {t0 t1 : TypeId} (e1 : ts[0]? = some t0) (e2 : ts[1]? = some t1) (ty : TypeId) (x y : Value) : Builtin.append_ ts ty #[x, y] = Builtin.append_ #[t0, t1] ty #[x, y] := by
  simp [Builtin.append_, e1, e2]

theorem OwnSl.front {w : World} {e : TypeId} {sz : Nat} {a : Option Addr} {len cap k : Nat} {vs : List Value} (h : OwnSl w e sz (.slice a len cap) len vs) (hk : k ≤ len) : OwnSl w e sz (.slice a k cap) k (vs.take (k * sz)) := by
  obtain ⟨a0, c0, g1, g2, g3⟩ := h
  simp at g1
  obtain ⟨rfl, rfl⟩ := g1
  have hle : k * sz ≤ len * sz := Nat.mul_le_mul_right _ hk
  refine ⟨a, cap, rfl, by rw [List.length_take]; omega, ?_⟩
  rcases g3 with ⟨h1, h2⟩ | ⟨b, cur, q1, q2, q3, q4, q5, q6, q7⟩
  · exact .inl ⟨h1, by omega⟩
  · refine .inr ⟨b, cur, q1, q2, q3, by omega, q5, q6, ?_⟩
    rw [← q7, List.take_take, Nat.min_eq_left hle]

section
variable {R : Type} {C : Ctx} {o : Oper} {env : Env} {O : Heap} {K : DV → Heap → Option R} {r : R}

theorem append_W {base : Nat} {w0 : World} {N0 : Nat → Prop} {m : Mem} {a : Act} {c : Call} (ho : o.op = .call c) (hc : c.callee = .builtin .append) {p q : Operand} (hpq : c.args = #[p, q]) {e ex : TypeId}
    (ht : (c.argTypes[0]?).bind C.P.underlying = some (.slice e)) (htx : (c.argTypes[1]?).bind C.P.underlying = some (.slice ex)) (hm : MR base w0 N0 m O) {n : Nat} {h : Value} (hr : m.ρ n = some h) {t : Ty}
    {hs : Value} {k : Nat} {vs : List Value} {xs ys : List (El t)} {x : DV} (hown : OwnSl m.w e (csz t) hs k vs) (hb : hblk hs = hblk h) (hrow : RowRep m.N m.w t xs vs) (hkl : k = xs.length)
    (hp : a.eval p = hs) (hq : VR m x (a.eval q)) (hsrc : srcT t x O = some ys) (b1 : limit (C.P.bytesOf e) ((k : Int) + ys.length) = true) (b2 : csz t = C.P.cellsOf e) (b3 : 0 < csz t) (b4 : zeroOk C.P e = true)
    {X : Act → World → Prop} (hX : ∀ v m', Ext m m' → MR base w0 N0 m' ((O.set n .dead) ++ [.row e t (xs ++ ys)]) → VR m' (.sl O.length) v → X (a.put o.dst v) m'.w) : o.wp C.P a m.w X No := by
  obtain ⟨i, z, hi, hz, hsz, hzs, hby, hb0⟩ := zeroOk_get b4
  obtain ⟨xa, l, cx, news, h1, h2, h3, h4⟩ := src_rel hm (fun _ _ _ h => h) hsrc hq
  obtain ⟨t0, e1, e2⟩ := Option.bind_eq_some_iff.1 ht
  obtain ⟨t1, e3, e4⟩ := Option.bind_eq_some_iff.1 htx
  obtain ⟨h', w', r1, r2, r3, r4⟩ := append_own (ty := o.type) hown e2 e4 hi hz (by rw [hsz, b2]) (by rw [hzs, b2]) b3 hb0 h3 (by rw [h4.len, h2]) h4.one
    (by rw [hby, h2]; exact limit_le (by simpa using b1))
  have hrun : (execOp a.eval o).run C.P m.w = .ok (.value h') w' := by
    have : (Builtin.append_ c.argTypes o.type #[a.eval p, a.eval q]).run C.P m.w = .ok h' w' := by
      rw [append_types e1 e3, hp, h1]
      exact r1
    simp only [execOp, ho, resolve, hc, hpq, Sem.run_bind, Sem.run_pure, Result.andThen_ok, invoke, builtin]
    simp [this]
  rw [hb] at r3 r4
  obtain ⟨m', k1, k2, k3, k4⟩ := consume (B := .row e t (xs ++ ys)) hm hr r3 r4 (by simp) (fun m' he hw hN => by
    refine ⟨vs ++ news, ?_, ?_⟩
    · rw [hw, List.length_append, ← hkl, ← h2]; exact r2
    · exact RowRep.append (RowRep.keep he.N he.keep t xs _ hrow) (RowRep.keep he.N he.keep t ys _ h4))
  rw [← k1] at hrun
  refine wp_value hrun (hX h' m' k2 k3 ?_)
  simp only [VR]
  obtain ⟨a1, c1, rfl, _⟩ := r2
  exact .inr ⟨k4, rfl⟩

theorem evW_done (h : evW C o env O O.length K = some r) : ∃ d O', WOK C o env O d O' ∧ K d O' = some r := by
  unfold evW at h
  simp only at h
  split at h
  · rename_i T a x ho
    cases hc : sized (opd env x) (C.P.cellsOf T) && Nat.blt 0 (C.P.cellsOf T) && (cellsOf (opd env x)).all leafD && o.dst.isNone <;> simp only [hc, cond_true, cond_false] at h
    · simp at h
    simp only [Bool.and_eq_true, Nat.blt_eq] at hc
    obtain ⟨⟨⟨c1, c2⟩, c3⟩, c4⟩ := hc
    have c4 := Option.isNone_iff_eq_none.1 c4
    split at h
    · rename_i O' hs
      refine ⟨_, O', fun base w0 N0 m act hm ha X hX => ?_, h⟩
      obtain ⟨w', r1, r2, r3, _⟩ := store_rel hm (ha a (by simp [ho, Op.operands])) (ha x (by simp [ho, Op.operands])) c1 c2 c3 hs
      have hrun : (execOp act.eval o).run C.P m.w = .ok .skip w' := by
        simp only [execOp, ho, Sem.run_bind, r1, Result.andThen_ok, Sem.run_pure]
      have := hX undef { m with w := w' } r2 r3 (by simp only [VR])
      unfold Oper.wp
      rw [hrun]
      exact this
    · simp at h
  · rename_i c ho
    split at h
    · rename_i hc
      split at h
      · rename_i s x e ex hargs ht htx
        obtain ⟨p, q, hpq, hp, hq⟩ := args2 hargs
        split at h
        · rename_i n
          split at h
          · rename_i e' t xs hn
            cases hb : Nat.beq e e' <;> simp only [hb, cond_true, cond_false] at h
            · simp at h
            have hb := Nat.eq_of_beq_eq_true hb
            subst hb
            split at h
            · rename_i ys hys
              cases hl : limit (C.P.bytesOf e) ((xs.length : Int) + ys.length) && Nat.beq (csz t) (C.P.cellsOf e) && Nat.blt 0 (csz t) && zeroOk C.P e <;> simp only [hl, cond_true, cond_false] at h
              · simp at h
              simp only [Bool.and_eq_true, Nat.blt_eq] at hl
              obtain ⟨⟨⟨b1, b2⟩, b3⟩, b4⟩ := hl
              refine ⟨_, _, fun base w0 N0 m act hm ha X hX => ?_, h⟩
              have hvp : VR m _ (act.eval p) := ha p (by simp [ho, Op.operands, Call.operands, hc, hpq])
              have hvq : VR m x (act.eval q) := by rw [← hq]; exact ha q (by simp [ho, Op.operands, Call.operands, hc, hpq])
              rw [hp] at hvp
              simp only [VR] at hvp
              rcases hvp with hvp | ⟨hr, _⟩
              · exact (notdead hm (fun _ _ _ h => h) hn (by simp) hvp.1).elim
              obtain ⟨vs, ho2, hrr⟩ := blk_of hm (fun _ _ _ h => h) hn hr
              exact append_W ho hc hpq ht htx hm hr ho2 rfl hrr rfl rfl hvq hys b1 (Nat.eq_of_beq_eq_true b2) b3 b4 hX
            · simp at h
          · simp at h
        · rename_i n z lo hi
          split at h
          · rename_i e' t xs hn
            cases hb : Nat.beq e e' && Nat.beq z (csz t) && decide (lo = 0) <;> simp only [hb, cond_true, cond_false] at h
            · simp at h
            simp only [Bool.and_eq_true, decide_eq_true_eq] at hb
            obtain ⟨⟨hb, hz⟩, hlo⟩ := hb
            have hb := Nat.eq_of_beq_eq_true hb
            have hz := Nat.eq_of_beq_eq_true hz
            subst hb
            subst hz
            subst hlo
            split at h
            · rename_i ys hys
              cases hl : limit (C.P.bytesOf e) (hi + ys.length) && Nat.beq (csz t) (C.P.cellsOf e) && Nat.blt 0 (csz t) && zeroOk C.P e <;> simp only [hl, cond_true, cond_false] at h
              · simp at h
              simp only [Bool.and_eq_true, Nat.blt_eq] at hl
              obtain ⟨⟨⟨b1, b2⟩, b3⟩, b4⟩ := hl
              refine ⟨_, _, fun base w0 N0 m act hm ha X hX => ?_, h⟩
              have hvp : VR m _ (act.eval p) := ha p (by simp [ho, Op.operands, Call.operands, hc, hpq])
              have hvq : VR m x (act.eval q) := by rw [← hq]; exact ha q (by simp [ho, Op.operands, Call.operands, hc, hpq])
              rw [hp] at hvp
              simp only [VR] at hvp
              rcases hvp with hvp | ⟨aa, len, cap, a', c', hr, hv, h3, h4, h5, h6, h7, h8, h9⟩
              · exact (notdead hm (fun _ _ _ h => h) hn (by simp) hvp.1).elim
              obtain ⟨rfl, rfl⟩ := h8 trivial
              obtain ⟨vs, ho2, hrr⟩ := blk_of hm (fun _ _ _ h => h) hn hr
              have hlen : len = xs.length := by obtain ⟨_, _, h1, _⟩ := ho2; simp at h1; exact h1.2.1
              subst hlen
              have ek : (hi - 0).toNat = hi.toNat := by simp
              have hle : hi.toNat ≤ xs.length := by omega
              have hsub : sub xs 0 hi = xs.take hi.toNat := by
                apply List.ext_getElem?
                intro i
                rw [sub_get (by omega) h4 h5, List.getElem?_take]
                simp
              have := OwnSl.front ho2 hle
              rw [hsub] at hX
              refine append_W ho hc hpq ht htx hm hr this (by cases a' <;> rfl) (RowRep.take _ hrr) (by simp; omega) (by rw [hv, ek]) hvq hys ?_ (Nat.eq_of_beq_eq_true b2) b3 b4 hX
              rw [show ((hi.toNat : Nat) : Int) = hi by omega]
              exact b1
            · simp at h
          · simp at h
        · simp at h
      · simp at h
    · rename_i hc; exact evCopy_done ho hc h
    · rename_i hc; exact evClear_done ho hc h
    · simp at h
  · simp at h
end
end Go.AM
