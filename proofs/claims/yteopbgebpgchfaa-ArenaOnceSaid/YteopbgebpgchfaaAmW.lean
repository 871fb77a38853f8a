/- DERIVED. NO CLAIM IN IT. The operations that write. -/
import Derived.Test.YteopbgebpgchfaaAmLit
set_option linter.unusedVariables false
set_option linter.unusedSimpArgs false
namespace Go.AM
open Go.RowKit

def WOK (C : Ctx) (o : Oper) (env : Env) (O : Heap) (d : DV) (O' : Heap) : Prop :=
  ∀ (base : Nat) (w0 : World) (N0 : Nat → Prop) (m : Mem) (a : Act), MR base w0 N0 m O → (∀ x ∈ o.op.operands, VR m (opd env x) (a.eval x)) →
    ∀ X : Act → World → Prop, (∀ v m', Ext m m' → MR base w0 N0 m' O' → VR m' d v → X (a.put o.dst v) m'.w) → o.wp C.P a m.w X No

theorem MR.free {base : Nat} {w0 : World} {N0 : Nat → Prop} {m : Mem} {O : Heap} (h : MR base w0 N0 m O) (k : Nat) : m.ρ (O.length + k) = none := by
  cases hr : m.ρ (O.length + k) with
  | none => rfl
  | some v =>
    obtain ⟨B, h1, _⟩ := h.blk _ v hr
    rw [List.getElem?_eq_none (by omega)] at h1
    simp at h1

theorem MR.grow {base : Nat} {w0 : World} {N0 : Nat → Prop} {m : Mem} {O : Heap} (h : MR base w0 N0 m O) (news : List Blk) (hn : ∀ B ∈ news, B ≠ Blk.dead) : MR base w0 N0 m (O ++ news) := by
  refine ⟨h.below, h.bsz, h.lt, h.nBase, h.nN, h.inj, fun n v hr => ?_, fun n => ?_⟩
  · obtain ⟨B, h1, h2⟩ := h.blk n v hr
    exact ⟨B, by rw [List.getElem?_append_left (List.getElem?_eq_some_iff.1 h1).1]; exact h1, h2⟩
  · rw [h.dead n]
    by_cases hl : n < O.length
    · rw [List.getElem?_append_left hl]
    · rw [List.getElem?_eq_none (by omega), List.getElem?_append_right (by omega)]
      constructor
      · intro e; simp at e
      · intro e
        exact (hn _ (List.mem_of_getElem? e) rfl).elim

theorem upd_ext {base : Nat} {w0 : World} {N0 : Nat → Prop} {m : Mem} {O : Heap} (hm : MR base w0 N0 m O) {n : Nat} {h : Value} {b : Nat} (hr : m.ρ n = some h) (hb : hblk h = some b) {w : World} (hg : m.w.grownBy w (some b)) :
    Ext m { m with w := w } := by
  refine ⟨fun k v hk => .inl hk, fun _ h => h, fun _ h => h, fun k hk => hg.block k (hm.lt k hk) ?_⟩
  intro e
  simp at e
  subst e
  exact (hm.nN n h k hr hb).1 hk

theorem upd_MR {base : Nat} {w0 : World} {N0 : Nat → Prop} {m : Mem} {O : Heap} (hm : MR base w0 N0 m O) {n : Nat} {h : Value} {b : Nat} (hr : m.ρ n = some h) (hb : hblk h = some b) {w : World} (hg : m.w.grownBy w (some b))
    {B : Blk} (hB : B ≠ .dead) (hbr : BR { m with w := w } B h) : MR base w0 N0 { m with w := w } (O.set n B) := by
  have he := upd_ext hm hr hb hg
  obtain ⟨B0, hO, hB0⟩ := hm.blk n h hr
  have hn : n < O.length := (List.getElem?_eq_some_iff.1 hO).1
  have hnd : B0 ≠ .dead := by rintro rfl; exact hB0
  refine ⟨?_, Nat.le_trans hm.bsz hg.size, fun k hk => Nat.lt_of_lt_of_le (hm.lt k hk) hg.size, hm.nBase, fun k v c hk hv => ?_, hm.inj, fun k v hk => ?_, fun k => ?_⟩
  · exact hm.below.grown hg hm.bsz (fun k hk => by simp at hk; subst hk; exact (hm.nN n h b hr hb).2.1)
  · obtain ⟨h1, h2, h3⟩ := hm.nN k v c hk hv
    exact ⟨h1, h2, Nat.lt_of_lt_of_le h3 hg.size⟩
  · by_cases e : k = n
    · subst e
      have : v = h := by have := hk; simp only at this; rw [hr] at this; simpa using this.symm
      subst this
      exact ⟨B, by simp [hn], hbr⟩
    · obtain ⟨B', h1, h2⟩ := hm.blk k v hk
      refine ⟨B', by rw [List.getElem?_set_ne (Ne.symm e)]; exact h1, BR.keep he B' v (fun c hc => hg.block c (hm.nN k v c hk hc).2.2 ?_) h2⟩
      intro e2
      simp at e2
      subst e2
      exact e (hm.inj k n v h c hk hr hc hb)
  · rw [hm.dead k]
    by_cases e : k = n
    · subst e
      have hk : O[k] = B0 := by simpa [List.getElem?_eq_getElem hn] using hO
      simp [hn, hB]
      rw [hk]
      exact hnd
    · rw [List.getElem?_set_ne (Ne.symm e)]

theorem leafD_one {m : Mem} {d : DV} {v : Value} (h : leafD d = true) (hv : VR m d v) : v.oneCell' = true := by
  cases d with
  | dat t x =>
    cases t with
    | int k => have := of_int hv; subst this; rfl
    | bool => have := of_bool hv; subst this; rfl
    | str => have := of_str hv; subst this; rfl
    | sl e => obtain ⟨a, len, cap, h1, _⟩ := of_sl hv; simp at h1; subst h1; rfl
    | _ => simp [leafD] at h
  | raw u => simp only [VR] at hv; subst hv; cases v <;> simp_all [leafD, oneV, Value.oneCell']
  | ptr n off =>
    simp only [VR] at hv
    rcases hv with ⟨_, hv⟩ | ⟨_, _, rfl⟩
    · cases v <;> simp_all [oneV, Value.oneCell']
    · rfl
  | fp t x off => simp only [VR] at hv; obtain ⟨_, _, _, _, _, _, rfl⟩ := hv; rfl
  | ep n z i off =>
    simp only [VR] at hv
    rcases hv with ⟨_, hv⟩ | ⟨_, _, _, _, _, _, rfl⟩
    · cases v <;> simp_all [oneV, Value.oneCell']
    · rfl
  | sl n => simp only [VR] at hv; rcases hv with ⟨_, hv⟩ | ⟨_, hv⟩ <;> (cases v <;> simp_all [oneV, Value.oneCell'])
  | sw n z p q =>
    simp only [VR] at hv
    rcases hv with ⟨_, hv⟩ | ⟨_, _, _, _, _, _, rfl, _⟩
    · cases v <;> simp_all [oneV, Value.oneCell']
    · rfl
  | e0 => simp only [VR] at hv; obtain ⟨_, rfl⟩ := hv; rfl
  | mp n => simp only [VR] at hv; rcases hv with ⟨_, hv⟩ | ⟨_, hv⟩ <;> (cases v <;> simp_all [oneV, Value.oneCell'])
  | ifc t d => simp only [VR] at hv; obtain ⟨_, rfl, _⟩ := hv; rfl
  | clo f a b => simp only [VR] at hv; obtain ⟨_, _, rfl, _⟩ := hv; rfl
  | un => simp [leafD] at h
  | agg cs => simp [leafD] at h
  | tup ds => simp [leafD] at h
  | ub => simp [leafD] at h

theorem leafs_one {m : Mem} : ∀ {ds : List DV} {vs : List Value}, ds.all leafD = true → VRL m ds vs → ∀ u ∈ vs, u.oneCell' = true
  | [], vs, _, h, u, hu => by simp only [VRL] at h; subst h; simp at hu
  | d :: r, vs, hl, h, u, hu => by
    simp only [VRL] at h
    obtain ⟨v, vr, rfl, h2, h3⟩ := h
    simp only [List.all_cons, Bool.and_eq_true] at hl
    rcases List.mem_cons.1 hu with rfl | hu
    · exact leafD_one hl.1 h2
    · exact leafs_one hl.2 h3 u hu

theorem putAt_len {α : Type} {old cs : List α} {off : Nat} (h : off + cs.length ≤ old.length) : (putAt old off cs).length = old.length := by
  simp [putAt]; omega

theorem VRL.putAt {m : Mem} {old cs : List DV} {vo vc : List Value} {off : Nat} (h : VRL m old vo) (k : VRL m cs vc) : VRL m (putAt old off cs) (putAt vo off vc) := by
  unfold AM.putAt
  rw [k.len]
  exact (VRL.take off h).append (k.append (VRL.drop _ h))

/-- Within the middle part. -/
theorem putAt_mid {α : Type} {a e b cs : List α} {off : Nat} (h : off + cs.length ≤ e.length) : putAt (a ++ (e ++ b)) (a.length + off) cs = a ++ (putAt e off cs ++ b) := by
  unfold putAt
  have h1 : (a ++ (e ++ b)).take (a.length + off) = a ++ e.take off := by
    rw [List.take_append, List.take_of_length_le (by omega)]
    congr 1
    rw [show a.length + off - a.length = off by omega, List.take_append_of_le_length (by omega)]
  have h2 : (a ++ (e ++ b)).drop (a.length + off + cs.length) = e.drop (off + cs.length) ++ b := by
    rw [List.drop_append, List.drop_eq_nil_of_le (by omega)]
    rw [show a.length + off + cs.length - a.length = off + cs.length by omega, List.drop_append_of_le_length (by omega)]
    simp
  rw [h1, h2]
  simp

theorem RowRep.set {N : Nat → Prop} {w : World} {t : Ty} : ∀ {xs : List (El t)} {a e b : List Value} {i : Nat} {x x' : El t} {e' : List Value}, RowRep N w t xs (a ++ (e ++ b)) → a.length = i * csz t → e.length = csz t → xs[i]? = some x → RepC N w t x' e' →
    RowRep N w t (xs.set i x') (a ++ (e' ++ b))
  | [], a, e, b, i, x, x', e', h, _, _, hx, _ => by simp at hx
  | y :: r, a, e, b, 0, x, x', e', h, ha, he, hx, hx' => by
    have ha : a = [] := List.eq_nil_of_length_eq_zero (by simpa using ha)
    subst ha
    obtain ⟨c1, c2, h1, h2, h3⟩ := h
    have hc := RepC.len t y c1 h2
    have : c1 = e ∧ c2 = b := by
      have := List.append_inj (by simpa using h1) (by omega)
      exact ⟨this.1.symm, this.2.symm⟩
    obtain ⟨rfl, rfl⟩ := this
    exact ⟨e', c2, by simp, hx', h3⟩
  | y :: r, a, e, b, i + 1, x, x', e', h, ha, he, hx, hx' => by
    obtain ⟨c1, c2, h1, h2, h3⟩ := h
    have hc := RepC.len t y c1 h2
    have hal : a.length = c1.length + i * csz t := by rw [ha, hc, Nat.add_mul]; omega
    obtain ⟨a2, rfl⟩ : ∃ a2, a = c1 ++ a2 := by
      refine ⟨a.drop c1.length, ?_⟩
      have h4 := congrArg (List.take c1.length) h1
      rw [List.take_append_of_le_length (by omega), List.take_left] at h4
      conv => lhs; rw [← List.take_append_drop c1.length a, h4]
    have h5 : a2 ++ (e ++ b) = c2 := by
      have : c1 ++ (a2 ++ (e ++ b)) = c1 ++ c2 := by simpa using h1
      exact List.append_cancel_left this
    subst h5
    simp only [List.set_cons_succ]
    refine ⟨c1, a2 ++ (e' ++ b), by simp, h2, RowRep.set h3 (by simp at hal; omega) he (by simpa using hx) hx'⟩

theorem unps_rel {m : Mem} {t : Ty} : ∀ {xs : List (El t)} {cs : List Value}, RowRep m.N m.w t xs cs → VRL m (xs.map (unp t)).flatten cs
  | [], cs, h => by simp only [RowRep] at h; subst h; simp [VRL]
  | x :: r, cs, h => by
    obtain ⟨c1, c2, rfl, h2, h3⟩ := h
    simp only [List.map_cons, List.flatten_cons]
    exact (unp_rel t x c1 h2).append (unps_rel h3)

theorem flat_set {m : Mem} {z : Nat} : ∀ {xs : List (List DV)} {vs : List Value} {i : Nat} {x : List DV} {off : Nat} {cs : List DV} {vc : List Value}, VRL m xs.flatten vs → (∀ x ∈ xs, x.length = z) → xs[i]? = some x → VRL m cs vc → off + cs.length ≤ z →
    VRL m (xs.set i (putAt x off cs)).flatten (putAt vs (i * z + off) vc)
  | [], _, i, x, _, _, _, _, _, hx, _, _ => by simp at hx
  | y :: r, vs, 0, x, off, cs, vc, h, hz, hx, hc, ho => by
    simp at hx
    subst hx
    have hy := hz y (by simp)
    simp only [List.flatten_cons] at h
    have hvl := h.len
    simp only [List.length_append] at hvl
    have h1 := VRL.take y.length h
    have h2 := VRL.drop y.length h
    rw [List.take_left] at h1
    rw [List.drop_left] at h2
    simp only [List.set_cons_zero, List.flatten_cons, Nat.zero_mul, Nat.zero_add]
    have h3 := (VRL.putAt (off := off) h1 hc).append h2
    have e : putAt vs off vc = putAt (vs.take y.length) off vc ++ vs.drop y.length := by
      have hcl := hc.len
      have := putAt_mid (a := []) (e := vs.take y.length) (b := vs.drop y.length) (cs := vc) (off := off) (by simp; omega)
      simpa using this
    rw [e]
    exact h3
  | y :: r, vs, i + 1, x, off, cs, vc, h, hz, hx, hc, ho => by
    have hy := hz y (by simp)
    simp only [List.flatten_cons] at h
    have hvl := h.len
    simp only [List.length_append] at hvl
    have h1 := VRL.take y.length h
    have h2 := VRL.drop y.length h
    rw [List.take_left] at h1
    rw [List.drop_left] at h2
    simp only [List.set_cons_succ, List.flatten_cons]
    have ih := flat_set h2 (fun q hq => hz q (by simp [hq])) (by simpa using hx) hc ho
    have h3 := h1.append ih
    have e : putAt vs ((i + 1) * z + off) vc = vs.take y.length ++ putAt (vs.drop y.length) (i * z + off) vc := by
      unfold AM.putAt
      have hle : (i + 1) * z + off = y.length + (i * z + off) := by rw [hy, Nat.add_mul]; omega
      rw [hle]
      rw [List.take_add, List.drop_drop]
      simp [Nat.add_assoc]
    rw [e]
    exact h3

section
variable {R : Type} {C : Ctx} {o : Oper} {env : Env} {O : Heap} {nx : Nat} {K : DV → Heap → Option R} {r : R}

/-- What a store does to a block. -/
theorem store_run {P : Program} {T : TypeId} {w : World} {b off : Nat} {v : Value} {cur : Array Value} {E : TypeId} (hb : w.heap[b]? = some (.cells cur E (0, 0))) (hs : v.cells.size = P.cellsOf T) (h0 : 0 < P.cellsOf T)
    (hle : off + v.cells.size ≤ cur.size) (h1 : ∀ u ∈ v.cells.toList, u.oneCell' = true) :
    (Instr.storeAt T (.pointer (some ⟨b, off, none⟩)) v).run P w = .ok () (w.setRow b (putAt cur.toList off v.cells.toList).toArray) := by
  obtain ⟨i, hi, hsz⟩ := info_of_cells h0
  have := run_storeCells_at P b off E v.cells.toList 0 cur w hb (by simpa using hle) h1
  simp only [Nat.add_zero] at this
  simp only [Instr.storeAt, Instr.sureAddr, storeVar, Sem.run_bind, Sem.run_pure, Result.andThen_ok, sizeOf, typeInfo, run_program, hi]
  simp only [hsz, hs, ne_eq, not_true_eq_false, if_false, Sem.run_bind, Sem.run_pure, Result.andThen_ok]
  simp [this, putAt, hi, hsz, hs]
end
end Go.AM
