/- DERIVED. NO CLAIM IN IT. copy and clear. -/
import Derived.Test.YteopbgebpgchfaaAmW2
set_option linter.unusedVariables false
set_option linter.unusedSimpArgs false
namespace Go.AM
open Go.RowKit

theorem RowRep.put {N : Nat → Prop} {w : World} {t : Ty} {xs ys : List (El t)} {vs vc : List Value} {lo : Nat} (h : RowRep N w t xs vs) (k : RowRep N w t ys vc) : RowRep N w t (putAt xs lo ys) (putAt vs (lo * csz t) vc) := by
  have hl := k.len
  unfold putAt
  rw [hl]
  have : lo * csz t + ys.length * csz t = (lo + ys.length) * csz t := (Nat.add_mul _ _ _).symm
  rw [this]
  exact (RowRep.take lo h).append (k.append (RowRep.drop _ h))

/-- Elements laid into a row of one's own. -/
theorem put_row {P : Program} {base : Nat} {w0 : World} {N0 : Nat → Prop} {m : Mem} {O : Heap} (hm : MR base w0 N0 m O) {n : Nat} {e : TypeId} {t : Ty} {xs ys : List (El t)} (hO : O[n]? = some (.row e t xs)) {b len cap : Nat} (hr : m.ρ n = some (.slice (some ⟨b, 0, none⟩) len cap))
    {lo : Nat} (hle : lo + ys.length ≤ xs.length) (hpos : 0 < xs.length) {vc : List Value} (hrow : RowRep m.N m.w t ys vc) :
    ∃ w', (storeCells ⟨b, lo * csz t, none⟩ vc).run P m.w = .ok () w' ∧ Ext m { m with w := w' } ∧ MR base w0 N0 { m with w := w' } (O.set n (.row e t (putAt xs lo ys))) := by
  obtain ⟨vs, ⟨a0, c0, g1, g2, g3⟩, hrr⟩ := blk_of hm (fun _ _ _ h => h) hO hr
  simp at g1
  obtain ⟨rfl, rfl, rfl⟩ := g1
  rcases g3 with ⟨_, g3⟩ | ⟨b0, cur, q1, q2, q3, q4, q5, q6, q7⟩
  · omega
  simp at q1
  subst q1
  have hvl := hrow.len
  have hfit : lo * csz t + vc.length ≤ xs.length * csz t := by
    rw [hvl, ← Nat.add_mul]; exact Nat.mul_le_mul_right _ hle
  have hcur : xs.length * csz t ≤ cur.size := by rw [q6]; exact Nat.mul_le_mul_right _ q4
  have hrun := run_storeCells_at P b (lo * csz t) e vc 0 cur m.w q3 (by omega) hrow.one
  simp only [Nat.add_zero] at hrun
  have hp : cur.toList.take (lo * csz t) ++ vc ++ cur.toList.drop (lo * csz t + vc.length) = putAt cur.toList (lo * csz t) vc := by simp [putAt]
  rw [hp] at hrun
  refine ⟨_, hrun, ?_⟩
  have hk : hblk (.slice (some ⟨b, 0, none⟩) xs.length cap) = some b := by simp [hblk]; omega
  have hg : m.w.grownBy (m.w.setRow b (putAt cur.toList (lo * csz t) vc).toArray) (some b) :=
    ⟨rfl, rfl, rfl, by simp, fun k _ hk => setRow_other m.w b k _ (fun e => hk (by simp [e]))⟩
  have he := upd_ext hm hr hk hg
  refine ⟨he, upd_MR hm hr hk hg (by simp) ?_⟩
  have hl : (putAt xs lo ys).length = xs.length := putAt_len hle
  refine ⟨putAt vs (lo * csz t) vc, ?_, ?_⟩
  · rw [hl]
    exact OwnSl.upd (w := m.w) (h := .slice (some ⟨b, 0, none⟩) xs.length cap) rfl q2 q4 q5 q6 q7 g2 hfit (setRow_heap m.w b cur _ e _ q3)
  · exact RowRep.put (RowRep.keep he.N he.keep t xs _ hrr) (RowRep.keep he.N he.keep t ys _ hrow)

/-- A window, as it lies in memory. -/
theorem win_rel {base : Nat} {w0 : World} {N0 : Nat → Prop} {m : Mem} {O : Heap} (hm : MR base w0 N0 m O) {d : DV} {v : Value} (hv : VR m d v) {n : Nat} {lo hi : Int} (hw : winOf d O = some (n, lo, hi)) {e : TypeId} {t : Ty} {xs : List (El t)} (hO : O[n]? = some (.row e t xs)) (hz : winZ d (csz t) = true) :
    ∃ a' c', v = .slice a' (hi - lo).toNat c' ∧ 0 ≤ lo ∧ lo ≤ hi ∧ hi ≤ xs.length ∧ (lo < hi → ∃ b cap, m.ρ n = some (.slice (some ⟨b, 0, none⟩) xs.length cap) ∧ a' = some ⟨b, lo.toNat * csz t, none⟩) := by
  unfold winOf at hw
  split at hw
  · rename_i k
    split at hw
    · rename_i e' t' ys hO'
      simp at hw
      obtain ⟨rfl, rfl, rfl⟩ := hw
      rw [hO] at hO'
      simp at hO'
      obtain ⟨rfl, rfl, h⟩ := hO'
      have h := eq_of_heq h
      subst h
      simp only [VR] at hv
      rcases hv with hv | ⟨hr, _⟩
      · exact (notdead hm (fun _ _ _ h => h) hO (by simp) hv.1).elim
      obtain ⟨vs, ⟨a, cap, rfl, h2, h3⟩, h4⟩ := blk_of hm (fun _ _ _ h => h) hO hr
      refine ⟨a, cap, by simp, by omega, by omega, by omega, fun hlt => ?_⟩
      rcases h3 with ⟨_, h3⟩ | ⟨b, cur, rfl, _⟩
      · omega
      · exact ⟨b, cap, hr, by simp⟩
    · simp at hw
  · rename_i k z p q
    simp at hw
    obtain ⟨rfl, rfl, rfl⟩ := hw
    simp only [winZ] at hz
    have hz := Nat.eq_of_beq_eq_true hz
    subst hz
    simp only [VR] at hv
    rcases hv with hv | ⟨a, len, cap, a', c', h1, rfl, h3, h4, h5, h6, h7, h8, h9⟩
    · exact (notdead hm (fun _ _ _ h => h) hO (by simp) hv.1).elim
    obtain ⟨vs, ⟨a1, cap1, g1, g2, g3⟩, g4⟩ := blk_of hm (fun _ _ _ h => h) hO h1
    simp at g1
    obtain ⟨rfl, rfl, rfl⟩ := g1
    refine ⟨a', c', rfl, h3, h4, h5, fun hlt => ?_⟩
    obtain ⟨b, rfl, rfl⟩ := h9 hlt
    exact ⟨b, _, h1, rfl⟩
  · simp at hw

section
variable {R : Type} {C : Ctx} {o : Oper} {env : Env} {O : Heap} {nx : Nat} {K : DV → Heap → Option R} {r : R}

theorem set_same {O : Heap} {n : Nat} {B : Blk} (h : O[n]? = some B) : O.set n B = O := by
  apply List.ext_getElem?
  intro i
  by_cases e : n = i
  · subst e
    have := (List.getElem?_eq_some_iff.1 h).1
    rw [List.getElem?_set_self this, h]
  · rw [List.getElem?_set_ne e]

theorem putAt_nil {α : Type} (xs : List α) (lo : Nat) : putAt xs lo [] = xs := by simp [putAt]

theorem copy_run {P : Program} {ts : Array TypeId} {t0 e : TypeId} (h0 : ts[0]? = some t0) (ht : P.underlying t0 = some (.slice e)) {i : TypeInfo} (hi : P.info? e = some i) (ty : TypeId) (w w' : World) (a' xa : Option Addr) (dl c' sl xc : Nat) (vc : List Value) (k : Nat) (hk : min sl dl = k)
    (hl : vc.length = k * i.size) (hsrc : k = 0 ∨ ∃ b o, xa = some ⟨b, o, none⟩ ∧ w.rangeAt b o vc) (hst : k = 0 ∧ w' = w ∨ ∃ b o, a' = some ⟨b, o, none⟩ ∧ (storeCells ⟨b, o, none⟩ vc).run P w = .ok () w') :
    (Builtin.copy_ ts ty #[.slice a' dl c', .slice xa sl xc]).run P w = .ok (goInt k) w' := by
  have hmin : Nat.min sl dl = k := hk
  by_cases hz : k = 0
  · subst hz
    have hv : vc = [] := List.eq_nil_of_length_eq_zero (by rw [hl]; simp)
    subst hv
    have hw : w' = w := by
      rcases hst with ⟨_, h⟩ | ⟨b, o, rfl, h⟩
      · exact h
      · simp [storeCells] at h; exact h.symm
    subst hw
    cases a' <;> cases xa <;> simp [Builtin.copy_, h0, run_underlying ht, Builtin.lenOf, Builtin.firstCells, sizeOf, typeInfo, hi, hmin, storeCells, loadCells, loadCellsFrom]
  · obtain ⟨b, o, rfl, hr⟩ := hsrc.resolve_left hz
    obtain ⟨b2, o2, rfl, hs⟩ := hst.resolve_left (fun h => hz h.1)
    have hload := run_loadCells_list (P := P) w ⟨b, o, none⟩ vc (fun j v hj => by rw [Addr.add_mid]; exact hr j v hj)
    rw [hl] at hload
    simp [Builtin.copy_, h0, run_underlying ht, Builtin.lenOf, Builtin.firstCells, sizeOf, typeInfo, hi, hmin, hload, hs]

theorem evCopy_done {c : Call} (ho : o.op = .call c) (hc : c.callee = .builtin .copy) (h : evCopy C c env O K = some r) : ∃ d O', WOK C o env O d O' ∧ K d O' = some r := by
  unfold evCopy at h
  split at h
  case h_2 => simp at h
  rename_i d x e hargs ht
  obtain ⟨p, q, hpq, hp, hq⟩ := args2 hargs
  split at h
  case h_2 => simp at h
  rename_i n lo hi hw
  split at h
  case h_2 => simp at h
  rename_i e' t xs hO
  cases hb : Nat.beq e e' && Nat.beq (csz t) (C.P.cellsOf e) && Nat.blt 0 (csz t) && winZ d (csz t) <;> simp only [hb, cond_true, cond_false] at h
  · simp at h
  simp only [Bool.and_eq_true, Nat.blt_eq] at hb
  obtain ⟨⟨⟨b1, b2⟩, b3⟩, b4⟩ := hb
  have b1 := Nat.eq_of_beq_eq_true b1
  have b2 := Nat.eq_of_beq_eq_true b2
  subst b1
  split at h
  case h_2 => simp at h
  rename_i ys hys
  obtain ⟨t0, h0, ht0⟩ := Option.bind_eq_some_iff.1 ht
  obtain ⟨i, hi', hsz⟩ := info_of_cells (P := C.P) (t := e) (by omega)
  have key : ∀ (cnt : Nat), cnt = min ys.length (hi - lo).toNat → K (.dat (.int .i64) ((cnt : Nat) : Int)) (O.set n (.row e t (putAt xs lo.toNat (ys.take cnt)))) = some r → ∃ d O', WOK C o env O d O' ∧ K d O' = some r := by
    intro cnt hcnt hk
    refine ⟨_, _, fun base w0 N0 m act hm ha X hX => ?_, hk⟩
    have hvp : VR m d (act.eval p) := by rw [← hp]; exact ha p (by simp [ho, Op.operands, Call.operands, hc, hpq])
    have hvq : VR m x (act.eval q) := by rw [← hq]; exact ha q (by simp [ho, Op.operands, Call.operands, hc, hpq])
    obtain ⟨a', c', e1, e2, e3, e4, e5⟩ := win_rel hm hvp hw hO b4
    obtain ⟨xa, l, cx, news, s1, s2, s3, s4⟩ := src_rel hm (fun _ _ _ h => h) hys hvq
    have htake := RowRep.take cnt s4
    have hlen : (ys.take cnt).length = cnt := by rw [List.length_take]; omega
    have hvl := htake.len
    rw [hlen] at hvl
    have hmin : min l (hi - lo).toNat = cnt := by rw [s2, hcnt]
    obtain ⟨w', hst, he, hmr⟩ : ∃ w', (cnt = 0 ∧ w' = m.w ∨ ∃ b o, a' = some ⟨b, o, none⟩ ∧ (storeCells ⟨b, o, none⟩ (news.take (cnt * csz t))).run C.P m.w = .ok () w') ∧ Ext m { m with w := w' } ∧ MR base w0 N0 { m with w := w' } (O.set n (.row e t (putAt xs lo.toNat (ys.take cnt)))) := by
      by_cases hz : cnt = 0
      · refine ⟨m.w, .inl ⟨hz, rfl⟩, Ext.refl m, ?_⟩
        rw [hz]
        simp only [List.take_zero, putAt_nil]
        rw [set_same hO]
        exact hm
      · obtain ⟨b, cap, q1, q2⟩ := e5 (by omega)
        obtain ⟨w', q3, q4, q5⟩ := put_row (P := C.P) hm hO q1 (lo := lo.toNat) (ys := ys.take cnt) (by omega) (by omega) htake
        exact ⟨w', .inr ⟨b, _, q2, q3⟩, q4, q5⟩
    have hrun : (execOp act.eval o).run C.P m.w = .ok (.value (goInt cnt)) w' := by
      have := copy_run h0 ht0 hi' o.type m.w w' a' xa (hi - lo).toNat c' l cx (news.take (cnt * csz t)) cnt hmin (by rw [hvl, hsz, b2]) (by
        by_cases hz : cnt = 0
        · exact .inl hz
        · rcases s3 with s3 | ⟨b, o', r1, r2⟩
          · omega
          · exact .inr ⟨b, o', r1, range_take r2⟩) hst
      simp only [execOp, ho, resolve, hc, hpq, Sem.run_bind, Sem.run_pure, Result.andThen_ok, invoke, builtin, List.map_toArray, List.map_cons, List.map_nil]
      simp [e1, s1, this]
    exact wp_value hrun (hX (goInt cnt) { m with w := w' } he hmr (dat_int _ _))
  by_cases hlt : (ys.length : Int) < hi - lo
  · simp only [hlt, decide_true, cond_true] at h
    refine key ys.length (by omega) ?_
    rw [List.take_of_length_le (Nat.le_refl _)]
    exact h
  · simp only [hlt, decide_false, cond_false] at h
    by_cases hneg : lo ≤ hi
    · refine key (hi - lo).toNat (by omega) ?_
      rw [show (((hi - lo).toNat : Nat) : Int) = hi - lo by omega]
      exact h
    · refine ⟨_, _, fun base w0 N0 m act hm ha X hX => ?_, h⟩
      have hvp : VR m d (act.eval p) := by rw [← hp]; exact ha p (by simp [ho, Op.operands, Call.operands, hc, hpq])
      obtain ⟨a', c', e1, e2, e3, e4, e5⟩ := win_rel hm hvp hw hO b4
      exact (hneg e3).elim

theorem evClear_done {c : Call} (ho : o.op = .call c) (hc : c.callee = .builtin .clear) (h : evClear C c env O K = some r) : ∃ d O', WOK C o env O d O' ∧ K d O' = some r := by
  unfold evClear at h
  split at h
  case h_2 => simp at h
  rename_i d e hargs ht
  obtain ⟨p, hpq, hp⟩ : ∃ p, c.args = #[p] ∧ opd env p = d := by
    cases hl : c.args.toList with
    | nil => rw [hl] at hargs; simp at hargs
    | cons p r =>
      rw [hl] at hargs
      simp at hargs
      obtain ⟨h1, h2⟩ := hargs
      subst h2
      refine ⟨p, ?_, h1⟩
      apply Array.ext'
      simpa using hl
  split at h
  case h_2 => simp at h
  rename_i n lo hi hw
  split at h
  case h_2 => simp at h
  rename_i e' t xs hO
  cases hb : Nat.beq e e' && Nat.beq (csz t) (C.P.cellsOf e) && Nat.blt 0 (csz t) && winZ d (csz t) && zeroOk C.P e <;> simp only [hb, cond_true, cond_false] at h
  · simp at h
  simp only [Bool.and_eq_true, Nat.blt_eq] at hb
  obtain ⟨⟨⟨⟨b1, b2⟩, b3⟩, b4⟩, b5⟩ := hb
  have b1 := Nat.eq_of_beq_eq_true b1
  have b2 := Nat.eq_of_beq_eq_true b2
  subst b1
  split at h
  case h_2 => simp at h
  rename_i z hz
  obtain ⟨t0, h0, ht0⟩ := Option.bind_eq_some_iff.1 ht
  obtain ⟨i, zv, hi', hiz, hsz, hzs, _, _⟩ := zeroOk_get b5
  refine ⟨_, _, fun base w0 N0 m act hm ha X hX => ?_, h⟩
  have hvp : VR m d (act.eval p) := by rw [← hp]; exact ha p (by simp [ho, Op.operands, Call.operands, hc, hpq])
  obtain ⟨a', c', e1, e2, e3, e4, e5⟩ := win_rel hm hvp hw hO b4
  have hz' : (C.P.info? e).bind (·.zero) = some zv := by simp [hi', hiz]
  have hrep := pack_rel (zeroCells_rel m hz') hz
  have hrow := zeros_row hrep (by omega) (hi - lo).toNat
  have hzr : (zeroValue e).run C.P m.w = .ok zv m.w := by simp [zeroValue, typeInfo, hi', hiz]
  by_cases hlt : lo < hi
  · obtain ⟨b, cap, q1, q2⟩ := e5 hlt
    obtain ⟨w', q3, q4, q5⟩ := put_row (P := C.P) hm hO q1 (lo := lo.toNat) (ys := List.replicate (hi - lo).toNat z) (by simp; omega) (by omega) hrow
    have hrun : (execOp act.eval o).run C.P m.w = .ok (.value (.tuple #[])) w' := by
      obtain ⟨k, hk⟩ : ∃ k, (hi - lo).toNat = k + 1 := ⟨(hi - lo).toNat - 1, by omega⟩
      rw [q2] at e1
      rw [hk] at e1 q3
      have q3' : (storeCells ⟨b, lo.toNat * csz t, none⟩ (Builtin.zeroCells zv.cells (k + 1)).toList).run C.P m.w = .ok () w' := by simpa [Builtin.zeroCells] using q3
      simp only [execOp, ho, resolve, hc, hpq, Sem.run_bind, Sem.run_pure, Result.andThen_ok, invoke, builtin, List.map_toArray, List.map_cons, List.map_nil]
      simp [e1, Builtin.clear_, h0, run_underlying ht0, hzr, q3']
    exact wp_value hrun (hX _ { m with w := w' } q4 q5 (by simp only [VR]))
  · have hz0 : (hi - lo).toNat = 0 := by omega
    rw [hz0] at e1 hX
    simp only [List.replicate_zero, putAt_nil] at hX
    rw [set_same hO] at hX
    have hrun : (execOp act.eval o).run C.P m.w = .ok (.value (.tuple #[])) m.w := by
      simp only [execOp, ho, resolve, hc, hpq, Sem.run_bind, Sem.run_pure, Result.andThen_ok, invoke, builtin, List.map_toArray, List.map_cons, List.map_nil]
      cases a' <;> simp [e1, Builtin.clear_, h0, run_underlying ht0]
    exact wp_value hrun (hX _ m (Ext.refl m) hm (by simp only [VR]))
end
end Go.AM
