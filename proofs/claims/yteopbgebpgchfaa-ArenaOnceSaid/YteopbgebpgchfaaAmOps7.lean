/- DERIVED. NO CLAIM IN IT. append, and the rest. -/
import Derived.Test.YteopbgebpgchfaaAmOps6
set_option linter.unusedVariables false
set_option linter.unusedSimpArgs false
namespace Go.AM
open Go.RowKit

theorem RepC.one {N : Nat → Prop} {w : World} : ∀ (t : Ty) (x : El t) (cs : List Value), RepC N w t x cs → ∀ u ∈ cs, u.oneCell' = true
  | .int k, x, cs, h, u, hu => by obtain rfl := h; simp at hu; subst hu; rfl
  | .bool, x, cs, h, u, hu => by obtain rfl := h; simp at hu; subst hu; rfl
  | .str, x, cs, h, u, hu => by obtain rfl := h; simp at hu; subst hu; rfl
  | .sl e, xs, cs, h, u, hu => by obtain ⟨a, len, cap, rfl, _⟩ := h; simp at hu; subst hu; rfl
  | .st f, x, cs, h, u, hu => RepC.one f x cs h u hu
  | .nil, x, cs, h, u, hu => by obtain rfl := h; simp at hu
  | .cons a b, x, cs, h, u, hu => by
    obtain ⟨c1, c2, rfl, h2, h3⟩ := h
    rcases List.mem_append.1 hu with hu | hu
    · exact RepC.one a _ c1 h2 u hu
    · exact RepC.one b _ c2 h3 u hu

theorem RowRep.one {N : Nat → Prop} {w : World} {t : Ty} : ∀ {xs : List (El t)} {cs : List Value}, RowRep N w t xs cs → ∀ u ∈ cs, u.oneCell' = true
  | [], cs, h, u, hu => by simp only [RowRep] at h; subst h; simp at hu
  | x :: r, cs, h, u, hu => by
    obtain ⟨c1, c2, rfl, h2, h3⟩ := h
    rcases List.mem_append.1 hu with hu | hu
    · exact RepC.one t x c1 h2 u hu
    · exact RowRep.one h3 u hu

/-- A row read out of memory. -/
theorem rows_of {N : Nat → Prop} {w : World} {t : Ty} {b : Nat} : ∀ (xs : List (El t)) (o : Nat), (∀ i x, xs[i]? = some x → ∃ ecs, RepC N w t x ecs ∧ CellsAt w b (o + i * csz t) ecs) →
    ∃ news, RowRep N w t xs news ∧ w.rangeAt b o news
  | [], o, h => ⟨[], rfl, fun j v hj => by simp at hj⟩
  | x :: r, o, h => by
    obtain ⟨ecs, h1, h2⟩ := h 0 x (by simp)
    obtain ⟨news, h3, h4⟩ := rows_of r (o + csz t) (fun i y hi => by
      obtain ⟨e, q1, q2⟩ := h (i + 1) y (by simpa using hi)
      refine ⟨e, q1, ?_⟩
      rwa [show o + csz t + i * csz t = o + (i + 1) * csz t by rw [Nat.add_mul]; omega])
    refine ⟨ecs ++ news, ⟨ecs, news, rfl, h1, h3⟩, fun j v hj => ?_⟩
    have hl := RepC.len t x ecs h1
    by_cases hj' : j < ecs.length
    · rw [List.getElem?_append_left hj'] at hj
      have := h2 j v hj
      simpa using this
    · rw [List.getElem?_append_right (by omega)] at hj
      have := h4 (j - ecs.length) v hj
      rwa [show o + csz t + (j - ecs.length) = o + j by omega] at this

theorem append_args {P : Program} {t tx ty e ex : TypeId} (ht : P.underlying t = some (.slice e)) (hx : P.underlying tx = some (.slice ex)) (b : Option Addr) (l k : Nat) (b' : Option Addr) (l' k' : Nat) (w : World) :
    (Builtin.append_ #[t, tx] ty #[.slice b l k, .slice b' l' k']).run P w = (Builtin.append_ #[t, t] ty #[.slice b l k, .slice b' l' k']).run P w := by
  simp [Builtin.append_, run_underlying ht, run_underlying hx]

theorem append_zero {P : Program} {t e : TypeId} (ht : P.underlying t = some (.slice e)) {i : TypeInfo} (hi : P.info? e = some i) (ty : TypeId) (base : Option Addr) (len cap : Nat) (hle : len ≤ cap) (xa : Option Addr) (c : Nat) (w : World) :
    (Builtin.append_ #[t, t] ty #[.slice base len cap, .slice xa 0 c]).run P w = .ok (.slice base len cap) w := by
  cases base <;> cases xa <;> simp [Builtin.append_, run_underlying ht, sizeOf, typeInfo, hi, Builtin.lenOf, Builtin.firstCells, loadCells, loadCellsFrom, hle, storeCells]

theorem append_own {P : Program} {w : World} {e : TypeId} {sz : Nat} {h : Value} {len : Nat} {vs : List Value} (hown : OwnSl w e sz h len vs) {t tx ty ex : TypeId}
    (ht : P.underlying t = some (.slice e)) (htx : P.underlying tx = some (.slice ex)) {i : TypeInfo} (hi : P.info? e = some i) {z : Value} (hz : i.zero = some z) (hs : i.size = sz) (hzs : z.cells.size = sz) (hsz : 0 < sz) (hb0 : 0 < i.bytes)
    {xa : Option Addr} {n c : Nat} {news : List Value} (hx : n = 0 ∨ ∃ b o, xa = some ⟨b, o, none⟩ ∧ w.rangeAt b o news) (hl : news.length = n * sz) (h1 : ∀ u ∈ news, u.oneCell' = true)
    (hbytes : (len + n) * i.bytes ≤ 140737488355328) :
    ∃ h' w', (Builtin.append_ #[t, tx] ty #[h, .slice xa n c]).run P w = .ok h' w' ∧ OwnSl w' e sz h' (len + n) (vs ++ news) ∧ w.grownBy w' (hblk h) ∧
      (∀ b, hblk h' = some b → hblk h = some b ∨ (w.heap.size ≤ b ∧ b < w'.heap.size)) := by
  subst hs
  have hsmall : len + n ≤ 140737488355328 := Nat.le_trans (Nat.le_mul_of_pos_right _ hb0) hbytes
  have hmax : len + n ≤ maxLen := by unfold maxLen; omega
  obtain ⟨a, cap, rfl, hvl, hown⟩ := hown
  rw [append_args ht htx]
  rcases Nat.eq_zero_or_pos n with rfl | hn
  · have hle : len ≤ cap := by
      rcases hown with ⟨_, h⟩ | ⟨b, cur, _, _, _, h, _⟩
      · omega
      · exact h
    have hnews : news = [] := List.eq_nil_of_length_eq_zero (by simpa using hl)
    subst hnews
    refine ⟨_, w, append_zero ht hi ty a len cap hle xa c w, ⟨a, cap, rfl, by simpa using hvl, ?_⟩, ⟨rfl, rfl, rfl, Nat.le_refl _, fun _ _ _ => rfl⟩, fun b hb => .inl hb⟩
    simpa using hown
  · obtain ⟨xb, xo, rfl, hr⟩ := hx.resolve_left (by omega)
    have hnews : ∀ j u, news[j]? = some u → w.cell? ((⟨xb, xo, none⟩ : Addr).add j) = some u := fun j u hj => by rw [Addr.add_mid]; exact hr j u hj
    have grown : ∀ (old : Nat), old < len + n → ∀ row : Option Nat,
        let g := grownCap w (len + n) old e
        let w1 := w.drew.alloc (.cells (vs.toArray ++ news.toArray ++ Builtin.zeroCells z.cells (g - (len + n))) e)
        OwnSl w1 e i.size (.slice (some ⟨w.heap.size, 0, none⟩) (len + n) g) (len + n) (vs ++ news) ∧ w.grownBy w1 row ∧
        (∀ b, hblk (.slice (some ⟨w.heap.size, 0, none⟩) (len + n) g) = some b → b = w.heap.size ∧ b < w1.heap.size) := by
      intro old ho row g w1
      have hge := grownCap_ge w (len + n) old e
      have hcm : g ≤ maxLen := grownCap_le_maxLen w (len + n) old e hmax
      have hlen : (vs ++ news).length = (len + n) * i.size := by rw [List.length_append, hvl, hl, Nat.add_mul]
      refine ⟨⟨_, g, rfl, hlen, .inr ⟨w.heap.size, _, rfl, by omega, heap_alloc_new w.drew _, hge, hcm, ?_, ?_⟩⟩, ⟨rfl, rfl, rfl, by simp [w1], fun k hk _ => heap_alloc_old w.drew _ k hk⟩, ?_⟩
      · simp only [Array.size_append, List.size_toArray, size_zeroCells, hzs, hvl, hl, ← Nat.add_mul]
        congr 1
        omega
      · simp only [Array.toList_append, List.append_assoc]
        rw [← List.append_assoc, ← hlen]
        exact List.take_left
      · intro b hb
        simp only [hblk] at hb
        split at hb
        · simp at hb
        · simp at hb; subst hb; exact ⟨rfl, by simp [w1]⟩
    rcases hown with ⟨rfl, rfl⟩ | ⟨b, cur, rfl, hc0, hb, hle, hcm, hcs, htake⟩
    · have hvs : vs = [] := List.eq_nil_of_length_eq_zero (by simpa using hvl)
      subst hvs
      cases a with
      | none =>
        have hrun := run_append_nil (P := P) w t ty e i z ht hi hz ⟨xb, xo, none⟩ n c news hl hnews hn (by omega) (by simp at hbytes; omega)
        obtain ⟨g1, g2, g3⟩ := grown 0 (by omega) (hblk (.slice none 0 0))
        refine ⟨_, _, hrun, ?_, ?_, ?_⟩
        · simpa using g1
        · simpa using g2
        · intro q hq
          have := g3 q (by simpa using hq)
          exact .inr ⟨by omega, by simpa using this.2⟩
      | some ad =>
        have hrun := run_append_grow (P := P) w t ty e i z ht hi hz ad 0 0 [] (by simp) (by simp) ⟨xb, xo, none⟩ n c news hl hnews (by omega) (by omega) (growslice_fits (by omega) hbytes)
        obtain ⟨g1, g2, g3⟩ := grown 0 (by omega) (hblk (.slice (some ad) 0 0))
        refine ⟨_, _, hrun, g1, g2, ?_⟩
        intro q hq
        have := g3 q hq
        exact .inr ⟨by omega, this.2⟩
    · by_cases hroom : len + n ≤ cap
      · have hfit : len * i.size + news.length ≤ cur.size := by rw [hl, hcs, ← Nat.add_mul]; exact Nat.mul_le_mul_right _ hroom
        have hrun := run_append_room (P := P) w t ty e i ht hi b len cap cur hb ⟨xb, xo, none⟩ n c news hl hnews h1 hroom hfit
        have hlen : (vs ++ news).length = (len + n) * i.size := by rw [List.length_append, hvl, hl, Nat.add_mul]
        refine ⟨_, _, hrun, ⟨_, cap, rfl, hlen, .inr ⟨b, _, rfl, hc0, setRow_heap w b cur _ e _ hb, hroom, hcm, ?_, ?_⟩⟩, ⟨rfl, rfl, rfl, by simp, fun k _ hk => setRow_other w b k _ (fun e => hk (by simp [hblk, e]; omega))⟩, fun q hq => .inl ?_⟩
        · simp only [List.size_toArray, List.length_append, List.length_take, List.length_drop, Array.length_toList]
          omega
        · rw [htake, ← hlen]
          exact List.take_left
        · simpa [hblk] using hq
      · have holds : ∀ j u, vs[j]? = some u → w.cell? ((⟨b, 0, none⟩ : Addr).add j) = some u := fun j u hj => by
          rw [Addr.add_mid]
          have := range_of_block hb 0 j u
          apply this
          rw [← htake, List.getElem?_take] at hj
          split at hj
          · simpa using hj
          · simp at hj
        have hrun := run_append_grow (P := P) w t ty e i z ht hi hz ⟨b, 0, none⟩ len cap vs hvl holds ⟨xb, xo, none⟩ n c news hl hnews (by omega) (by omega) (growslice_fits (by omega) hbytes)
        obtain ⟨g1, g2, g3⟩ := grown cap (by omega) (hblk (.slice (some ⟨b, 0, none⟩) len cap))
        refine ⟨_, _, hrun, g1, g2, ?_⟩
        intro q hq
        have := g3 q hq
        exact .inr ⟨by omega, this.2⟩

theorem toNat_sub' {p q : Int} (h0 : 0 ≤ p) (h1 : p ≤ q) : q.toNat - p.toNat = (q - p).toNat := by omega

/-- What an append adds. -/
theorem src_rel {m : Mem} {base : Nat} {w0 : World} {N0 : Nat → Prop} {O O' : Heap} (hm : MR base w0 N0 m O') (hO : ∀ (n : Nat) B, B ≠ Blk.dead → O[n]? = some B → O'[n]? = some B) {t : Ty} {x : DV} {v : Value} {ys : List (El t)}
    (h : srcT t x O = some ys) (hv : VR m x v) : ∃ xa n c news, v = .slice xa n c ∧ n = ys.length ∧ (n = 0 ∨ ∃ b o, xa = some ⟨b, o, none⟩ ∧ m.w.rangeAt b o news) ∧ RowRep m.N m.w t ys news := by
  unfold srcT at h
  split at h
  · rename_i t' xs
    obtain ⟨e, he⟩ := castEl_some h
    subst e
    simp only at he
    subst he
    obtain ⟨a, n, cap, h1, h2, h3, h4, h5⟩ := of_sl hv
    simp at h1
    subst h1
    rcases h5 with h5 | ⟨b, o, ha, hb, hx⟩
    · have : xs = [] := List.eq_nil_of_length_eq_zero (by omega)
      subst this
      exact ⟨a, n, cap, [], rfl, h2, .inl h5, rfl⟩
    · obtain ⟨news, e1, e2⟩ := rows_of xs o hx
      exact ⟨a, n, cap, news, rfl, h2, .inr ⟨b, o, ha, e2⟩, e1⟩
  · simp at h
    subst h
    simp only [VR] at hv
    subst hv
    exact ⟨none, 0, 0, [], rfl, rfl, .inl rfl, rfl⟩
  · simp at h
    subst h
    simp only [VR] at hv
    obtain ⟨a, rfl⟩ := hv
    exact ⟨a, 0, 0, [], rfl, rfl, .inl rfl, rfl⟩
  · rename_i n
    split at h
    · rename_i e t' xs hn
      obtain ⟨q, he⟩ := castEl_some h
      simp at q
      subst q
      simp only at he
      subst he
      simp only [VR] at hv
      rcases hv with hv | ⟨hv, _⟩
      · exact (notdead hm hO hn (by simp) hv.1).elim
      obtain ⟨vs, ⟨a, cap, rfl, h2, h3⟩, h4⟩ := blk_of hm hO hn hv
      rcases h3 with ⟨_, h3⟩ | ⟨b, cur, ha, _, hb, _, _, _, ht⟩
      · have hvs : vs = [] := List.eq_nil_of_length_eq_zero (by rw [h2, h3]; simp)
        exact ⟨a, _, cap, vs, rfl, rfl, .inl h3, h4⟩
      · refine ⟨a, _, cap, vs, rfl, rfl, .inr ⟨b, 0, ha, ?_⟩, h4⟩
        rw [← ht]
        exact range_take (by simpa using range_of_block hb 0)
    · simp at h
  · rename_i n z p q
    split at h
    · rename_i e t' xs hn
      cases hz : Nat.beq z (csz t') <;> simp only [hz, cond_true, cond_false] at h
      · simp at h
      have hz := Nat.eq_of_beq_eq_true hz
      subst hz
      obtain ⟨qq, he⟩ := castEl_some h
      simp at qq
      subst qq
      simp only at he
      subst he
      simp only [VR] at hv
      rcases hv with hv | ⟨a, len, cap, a', c', h1, rfl, h3, h4, h5, h6, h7, h8, h9⟩
      · exact (notdead hm hO hn (by simp) hv.1).elim
      obtain ⟨vs, ⟨a1, cap1, e1, e2, e3⟩, e4⟩ := blk_of hm hO hn h1
      simp at e1
      obtain ⟨rfl, rfl, rfl⟩ := e1
      have hlen : (sub xs p q).length = (q - p).toNat := by rw [sub_len h3 h4 h5]; exact toNat_sub' h3 h4
      by_cases h0 : (q - p).toNat = 0
      · have : sub xs p q = [] := List.eq_nil_of_length_eq_zero (by omega)
        rw [this]
        exact ⟨a', _, c', [], rfl, by simpa using h0, .inl h0, rfl⟩
      · obtain ⟨b, g1, g2⟩ := h9 (by omega)
        refine ⟨a', _, c', (vs.take (q.toNat * csz t')).drop (p.toNat * csz t'), rfl, hlen.symm, .inr ⟨b, p.toNat * csz t', g2, ?_⟩, ?_⟩
        · rcases e3 with ⟨_, e3⟩ | ⟨b', cur, ha, _, hb, _, _, _, ht⟩
          · omega
          · rw [g1] at ha
            simp at ha
            subst ha
            have h10 : m.w.rangeAt b 0 vs := by rw [← ht]; exact range_take (by simpa using range_of_block hb 0)
            have := range_drop (n := p.toNat * csz t') (range_take (n := q.toNat * csz t') h10)
            simpa using this
        · exact RowRep.drop _ (RowRep.take _ e4)
    · simp at h
  · simp at h

section
variable {R : Type} {C : Ctx} {o : Oper} {env : Env} {O : Heap} {nx : Nat} {W : Option R} {K : DV → List Blk → Option R} {r : R}

theorem zeroOk_get {P : Program} {e : TypeId} (h : zeroOk P e = true) : ∃ i z, P.info? e = some i ∧ i.zero = some z ∧ i.size = P.cellsOf e ∧ z.cells.size = P.cellsOf e ∧ i.bytes = P.bytesOf e ∧ 0 < i.bytes := by
  unfold zeroOk at h
  split at h
  · rename_i z hz
    obtain ⟨i, hi, hiz⟩ := Option.bind_eq_some_iff.1 hz
    simp only [Bool.and_eq_true, Nat.blt_eq] at h
    refine ⟨i, z, hi, hiz, by simp [Program.cellsOf, hi], Nat.eq_of_beq_eq_true h.1, by simp [Program.bytesOf, hi], ?_⟩
    have := h.2
    simpa [Program.bytesOf, hi] using this
  · simp at h

theorem isNilS_rel {m : Mem} {d : DV} {v : Value} (h : isNilS d = true) (hv : VR m d v) : ∃ a, v = .slice a 0 0 := by
  unfold isNilS at h
  split at h
  · simp only [VR] at hv; exact ⟨none, hv⟩
  · simp only [VR] at hv; exact hv
  · simp at h

theorem args2 {args : Array Operand} {f : Operand → DV} {s x : DV} (h : args.toList.map f = [s, x]) : ∃ p q, args = #[p, q] ∧ f p = s ∧ f q = x := by
  obtain ⟨l⟩ := args
  match l, h with
  | [p, q], h => simp at h; exact ⟨p, q, rfl, h.1, h.2⟩

theorem limit_le {bytes n : Nat} (h : limit bytes (n : Int) = true) : n * bytes ≤ 140737488355328 := by
  have h1 : (n : Int) * bytes ≤ 140737488355328 := of_decide_eq_true h
  have h2 : ((n * bytes : Nat) : Int) ≤ 140737488355328 := by rw [Int.natCast_mul]; exact h1
  omega

theorem done_append {c : Call} (ho : o.op = .call c) (hc : c.callee = .builtin .append) (h : evR C o env O nx W K = some r) : Done C o env O nx W K r := by
  simp only [evR, ho, hc] at h
  split at h
  · rename_i s x e ex hargs ht htx
    cases hn : isNilS s <;> simp only [hn, cond_true, cond_false] at h
    · exact .inl h
    split at h
    · rename_i t hcode
      split at h
      · rename_i ys hys
        cases hb : limit (C.P.bytesOf e) (ys.length : Int) && Nat.beq (csz t) (C.P.cellsOf e) && Nat.blt 0 (csz t) && zeroOk C.P e <;> simp only [hb, cond_true, cond_false] at h
        · simp at h
        simp only [Bool.and_eq_true, Nat.blt_eq] at hb
        obtain ⟨⟨⟨b1, b2⟩, b3⟩, b4⟩ := hb
        have b2 := Nat.eq_of_beq_eq_true b2
        obtain ⟨i, z, hi, hz, hs, hzs, hby, hb0⟩ := zeroOk_get b4
        obtain ⟨p, q, hpq, hp, hq⟩ := args2 hargs
        refine .inr ⟨_, _, by simp, ?_, h⟩
        refine OpOK.one fun base w0 N0 m O' a hm ha hO hfree => ?_
        have hvp : VR m s (a.eval p) := by rw [← hp]; exact ha p (by simp [ho, Op.operands, Call.operands, hc, hpq])
        have hvq : VR m x (a.eval q) := by rw [← hq]; exact ha q (by simp [ho, Op.operands, Call.operands, hc, hpq])
        obtain ⟨aa, hsv⟩ := isNilS_rel hn hvp
        obtain ⟨xa, n, cx, news, h1, h2, h3, h4⟩ := src_rel hm hO hys hvq
        have hown0 : OwnSl m.w e (csz t) (.slice aa 0 0) 0 [] := ⟨aa, 0, rfl, by simp, .inl ⟨rfl, rfl⟩⟩
        have hT : ∃ t0 t1, c.argTypes[0]? = some t0 ∧ c.argTypes[1]? = some t1 ∧ C.P.underlying t0 = some (.slice e) ∧ C.P.underlying t1 = some (.slice ex) := by
          obtain ⟨t0, e1, e2⟩ := Option.bind_eq_some_iff.1 ht
          obtain ⟨t1, e3, e4⟩ := Option.bind_eq_some_iff.1 htx
          exact ⟨t0, t1, e1, e3, e2, e4⟩
        obtain ⟨t0, t1, e1, e2, e3, e4⟩ := hT
        obtain ⟨h', w', r1, r2, r3, r4⟩ := append_own (ty := o.type) hown0 e3 e4 hi hz (by rw [hs, b2]) (by rw [hzs, b2]) b3 hb0 h3 (by rw [h4.len, h2]) h4.one
          (by rw [hby, Nat.zero_add, h2]; exact limit_le b1)
        have hrun : (execOp a.eval o).run C.P m.w = .ok (.value h') w' := by
          have : (Builtin.append_ c.argTypes o.type #[a.eval p, a.eval q]).run C.P m.w = .ok h' w' := by
            rw [← r1, hsv, h1]
            have : (Builtin.append_ c.argTypes o.type #[.slice aa 0 0, .slice xa n cx]).run C.P m.w = (Builtin.append_ #[t0, t1] o.type #[.slice aa 0 0, .slice xa n cx]).run C.P m.w := by
              simp [Builtin.append_, e1, e2]
            exact this
          simp only [execOp, ho, resolve, hc, hpq, Sem.run_bind, Sem.run_pure, Result.andThen_ok, invoke, builtin]
          simp [this]
        refine ⟨h', h', w', hrun, ?_, ?_, ?_, ?_⟩
        · have : hblk (.slice aa 0 0) = none := by cases aa <;> simp [hblk]
          rwa [this] at r3
        · intro b hb
          rcases r4 b hb with hq | hq
          · cases aa <;> simp [hblk] at hq
          · exact hq
        · intro he
          refine ⟨news, ?_, RowRep.keep he.N he.keep t ys _ h4⟩
          rw [← h2]
          have r2' : OwnSl w' e (csz t) h' n news := by simpa using r2
          exact r2'
        · simp only [VR]
          obtain ⟨a1, c1, rfl, _⟩ := r2
          exact .inr ⟨by simp [Mem.add], rfl⟩
      · exact .inl h
    · simp at h
  · simp at h

theorem MapEs.len {m : Mem} : ∀ {es : List (Int × DV)} {ms : List MapEntry}, MapEs m es ms → es.length = ms.length
  | [], ms, h => by simp only [MapEs] at h; simp [h]
  | (k, d) :: r, ms, h => by
    obtain ⟨e, er, rfl, _, _, h4⟩ := h
    simp [MapEs.len h4]

theorem done_len {c : Call} (ho : o.op = .call c) (hc : c.callee = .builtin .len) (h : evR C o env O nx W K = some r) : Done C o env O nx W K r := by
  simp only [evR, ho, hc] at h
  split at h
  · rename_i t x ht hx
    split at h
    · rename_i n hn
      refine Done.pure h fun base w0 N0 m O' a hm ha hO => ⟨.int .i64 n, ?_, dat_int _ _⟩
      have hv := ha x (by simp [ho, Op.operands, Call.operands, hc]; exact Array.mem_of_getElem? hx)
      have hrun : (Builtin.len_ c.argTypes o.type (c.args.map a.eval)).run C.P m.w = .ok (.int .i64 n) m.w := by
        unfold lenD at hn
        split at hn
        · rename_i k et hT
          simp at hn
          subst hn
          simp [Builtin.len_, ht, hx, run_underlying hT, goInt]
        · rename_i et hT
          obtain ⟨aa, k, cap, h1, h2, _⟩ := winS_rel hm hO hn hv
          simp [Builtin.len_, ht, hx, run_underlying hT, h1, goInt, h2]
        · rename_i hT
          split at hn
          · rename_i s hs
            simp at hn
            subst hn
            rw [hs] at hv
            have := of_str hv
            simp [Builtin.len_, ht, hx, run_underlying hT, this, goInt]
          · simp at hn
        · rename_i kt et hT
          split at hn
          · rename_i q hq
            split at hn
            · rename_i T es hO1
              simp at hn
              subst hn
              rw [hq] at hv
              simp only [VR] at hv
              rcases hv with hv | ⟨hv, _⟩
              · exact (notdead hm hO hO1 (by simp) hv.1).elim
              obtain ⟨b, clock, ms, h1, h2, h3, h4⟩ := blk_of hm hO hO1 hv
              have hl := h3.len
              simp [Builtin.len_, ht, hx, run_underlying hT, h1, goInt, getObj, Sem.run, h2]
              simp at hl
              omega
            · simp at hn
          · simp at hn
        · simp at hn
      simp only [execOp, ho, resolve, hc, Sem.run_bind, Sem.run_pure, Result.andThen_ok, invoke, builtin]
      simp [hrun]
    · simp at h
  · simp at h

theorem done_minmax {c : Call} (ho : o.op = .call c) (hc : c.callee = .builtin .max ∨ c.callee = .builtin .min) (h : evR C o env O nx W K = some r) : Done C o env O nx W K r := by
  rcases hc with hc | hc
  all_goals
    simp only [evR, ho, hc] at h
    split at h
    · rename_i k p k' q hargs
      obtain ⟨x, y, hxy, hx, hy⟩ := args2 hargs
      refine Done.pure h fun base w0 N0 m O' a hm ha hO => ?_
      have hvp : VR m _ (a.eval x) := ha x (by simp [ho, Op.operands, Call.operands, hc, hxy])
      have hvq : VR m _ (a.eval y) := ha y (by simp [ho, Op.operands, Call.operands, hc, hxy])
      rw [hx] at hvp
      rw [hy] at hvq
      have e1 := of_int hvp
      have e2 := of_int hvq
      refine ⟨_, ?_, dat_int _ _⟩
      simp only [execOp, ho, resolve, hc, hxy, Sem.run_bind, Sem.run_pure, Result.andThen_ok, invoke, builtin]
      simp [Builtin.max_, Builtin.min_, e1, e2, Builtin.max2, Builtin.min2, cond_eq_ite]
    · simp at h
end
end Go.AM
