/- DERIVED. NO CLAIM IN IT. The operations that read, reckon and make, part 6: slices. -/
import Derived.Test.YteopbgebpgchfaaAmOps5
import Derived.Laws.Slices
import Derived.Deep.OwnRows
set_option linter.unusedVariables false
set_option linter.unusedSimpArgs false
namespace Go.AM
open Go.RowKit
section
variable {R : Type} {C : Ctx} {o : Oper} {env : Env} {O : Heap} {nx : Nat} {W : Option R} {K : DV → List Blk → Option R} {r : R}

theorem notdead {m : Mem} {base : Nat} {w0 : World} {N0 : Nat → Prop} {O O' : Heap} (hm : MR base w0 N0 m O') (hO : ∀ (n : Nat) B, B ≠ Blk.dead → O[n]? = some B → O'[n]? = some B) {n : Nat} {B : Blk} (hb : O[n]? = some B) (hB : B ≠ .dead) : ¬ m.D n := by
  intro hd
  have := (hm.dead n).1 hd
  rw [hO n B hB hb] at this
  simp at this
  exact hB this

theorem blk_of {m : Mem} {base : Nat} {w0 : World} {N0 : Nat → Prop} {O O' : Heap} (hm : MR base w0 N0 m O') (hO : ∀ (n : Nat) B, B ≠ Blk.dead → O[n]? = some B → O'[n]? = some B) {n : Nat} {B : Blk} (hb : O[n]? = some B) {h : Value} (hr : m.ρ n = some h) (hB : B ≠ .dead := by simp) : BR m B h := by
  obtain ⟨B', h1, h2⟩ := hm.blk n h hr
  rw [hO n B hB hb] at h1
  simp at h1
  subst h1
  exact h2

theorem sub_get {α : Type} {xs : List α} {l h : Int} (h0 : 0 ≤ l) (h1 : l ≤ h) (h2 : h ≤ xs.length) (i : Nat) : (sub xs l h)[i]? = if i < h.toNat - l.toNat then xs[l.toNat + i]? else none := by
  unfold sub
  rw [List.getElem?_drop, List.getElem?_take]
  split <;> split <;> first | rfl | omega

theorem sub_len {α : Type} {xs : List α} {l h : Int} (h0 : 0 ≤ l) (h1 : l ≤ h) (h2 : h ≤ xs.length) : (sub xs l h).length = h.toNat - l.toNat := by
  unfold sub
  simp
  omega

/-- A slice, and a window of it. -/
theorem winS_rel {m : Mem} {base : Nat} {w0 : World} {N0 : Nat → Prop} {O O' : Heap} (hm : MR base w0 N0 m O') (hO : ∀ (n : Nat) B, B ≠ Blk.dead → O[n]? = some B → O'[n]? = some B) {sz : Nat} {x : DV} {v : Value} {len : Int}
    (hl : lenS O sz x = some len) (hv : VR m x v) : ∃ a n cap, v = .slice a n cap ∧ (n : Int) = len ∧ n ≤ cap ∧ cap ≤ maxLen ∧
      ∀ l h : Int, 0 ≤ l → l ≤ h → h ≤ len → VR m (winS sz x l h) (.slice (if cap = l.toNat then a else a.map (·.add (l.toNat * sz))) (h.toNat - l.toNat) (cap - l.toNat)) := by
  unfold lenS at hl
  split at hl
  · rename_i e xs
    cases hs : Nat.beq (csz e) sz <;> simp only [hs, cond_true, cond_false] at hl
    · simp at hl
    have hs := Nat.eq_of_beq_eq_true hs
    subst hs
    simp at hl
    subst hl
    obtain ⟨a, n, cap, h1, h2, h3, h4, h5⟩ := of_sl hv
    simp at h1
    subst h1
    refine ⟨a, n, cap, rfl, by omega, h3, h4, fun l h h6 h7 h8 => ?_⟩
    refine dat_sl ⟨_, _, _, rfl, (sub_len h6 h7 h8).symm, by omega, by omega, ?_⟩
    by_cases he : h.toNat - l.toNat = 0
    · exact .inl he
    · right
      rcases h5 with h5 | ⟨b, q, ha, hb, hx⟩
      · omega
      · refine ⟨b, q + l.toNat * csz e, ?_, hb, fun i y hi => ?_⟩
        · rw [if_neg (by omega), ha]; simp [Addr.add_mid]
        · rw [sub_get h6 h7 h8] at hi
          split at hi
          · obtain ⟨ecs, e1, e2⟩ := hx _ y hi
            refine ⟨ecs, e1, ?_⟩
            rwa [show q + l.toNat * csz e + i * csz e = q + (l.toNat + i) * csz e by rw [Nat.add_mul]; omega]
          · simp at hi
  · rename_i n
    split at hl
    · rename_i e t xs hn
      cases hs : Nat.beq (csz t) sz <;> simp only [hs, cond_true, cond_false] at hl
      · simp at hl
      have hs := Nat.eq_of_beq_eq_true hs
      subst hs
      simp at hl
      subst hl
      simp only [VR] at hv
      rcases hv with hv | ⟨hv, _⟩
      · exact (notdead hm hO hn (by simp) hv.1).elim
      obtain ⟨vs, ⟨a, cap, rfl, h2, h3⟩, h4⟩ := blk_of hm hO hn hv
      have hc : xs.length ≤ cap ∧ cap ≤ maxLen := by
        rcases h3 with h3 | ⟨b, cur, _, _, _, h5, h6, _⟩
        · unfold maxLen; omega
        · exact ⟨h5, h6⟩
      refine ⟨a, xs.length, cap, rfl, rfl, hc.1, hc.2, fun l h h6 h7 h8 => ?_⟩
      simp only [winS, VR]
      refine .inr ⟨a, xs.length, cap, _, _, hv, by congr 1; omega, h6, h7, h8, by omega, by omega, ?_, ?_⟩
      · rintro rfl
        refine ⟨?_, by simp⟩
        split
        · rfl
        · cases a <;> simp [Addr.add]
      · intro hlt
        rcases h3 with h3 | ⟨b, cur, ha, h5, _⟩
        · omega
        · refine ⟨b, ha, ?_⟩
          rw [if_neg (by omega), ha]
          simp [Addr.add_mid]
    · rename_i e z xs hn
      cases hs : Nat.beq z sz <;> simp only [hs, cond_true, cond_false] at hl
      · simp at hl
      have hs := Nat.eq_of_beq_eq_true hs
      subst hs
      simp at hl
      subst hl
      simp only [VR] at hv
      rcases hv with hv | ⟨hv, _⟩
      · exact (notdead hm hO hn (by simp) hv.1).elim
      obtain ⟨vs, ⟨a, cap, rfl, h2, h3⟩, h4⟩ := blk_of hm hO hn hv
      have hc : xs.length ≤ cap ∧ cap ≤ maxLen := by
        rcases h3 with h3 | ⟨b, cur, _, _, _, h5, h6, _⟩
        · unfold maxLen; omega
        · exact ⟨h5, h6⟩
      refine ⟨a, xs.length, cap, rfl, rfl, hc.1, hc.2, fun l h h6 h7 h8 => ?_⟩
      simp only [winS, VR]
      refine .inr ⟨a, xs.length, cap, _, _, hv, by congr 1; omega, h6, h7, h8, by omega, by omega, ?_, ?_⟩
      · rintro rfl
        refine ⟨?_, by simp⟩
        split
        · rfl
        · cases a <;> simp [Addr.add]
      · intro hlt
        rcases h3 with h3 | ⟨b, cur, ha, h5, _⟩
        · omega
        · refine ⟨b, ha, ?_⟩
          rw [if_neg (by omega), ha]
          simp [Addr.add_mid]
    · simp at hl
  · rename_i n z p q
    cases hs : Nat.beq z sz && live O n <;> simp only [hs, cond_true, cond_false] at hl
    · simp at hl
    simp only [Bool.and_eq_true] at hs
    have hs1 := Nat.eq_of_beq_eq_true hs.1
    subst hs1
    simp at hl
    subst hl
    simp only [VR] at hv
    rcases hv with hv | ⟨a, len, cap, a', c', h1, rfl, h3, h4, h5, h6, h7, h8, h9⟩
    · exact (live_get hs.2 hm hO hv.1).elim
    refine ⟨a', _, c', rfl, by omega, h6, h7, fun l h k6 k7 k8 => ?_⟩
    simp only [winS, VR]
    refine .inr ⟨a, len, cap, _, _, h1, by congr 1; omega, by omega, by omega, by omega, by omega, by omega, ?_, ?_⟩
    · intro e
      obtain rfl : p = 0 := by omega
      obtain rfl : l = 0 := by omega
      obtain ⟨rfl, rfl⟩ := h8 rfl
      refine ⟨?_, by simp⟩
      split
      · rfl
      · cases a' <;> simp [Addr.add]
    · intro hlt
      obtain ⟨b, e1, e2⟩ := h9 (by omega)
      refine ⟨b, e1, ?_⟩
      rw [if_neg (by omega), e2]
      simp only [Option.map_some, Addr.add_mid]
      congr 2
      rw [show (p + l).toNat = p.toNat + l.toNat by omega, Nat.add_mul]
  · simp at hl
    subst hl
    simp only [VR] at hv
    subst hv
    refine ⟨none, 0, 0, rfl, rfl, Nat.le_refl _, Nat.zero_le _, fun l h h6 h7 h8 => ?_⟩
    obtain rfl : l = 0 := by omega
    obtain rfl : h = 0 := by omega
    simp [winS, VR]
  · simp at hl
    subst hl
    simp only [VR] at hv
    obtain ⟨a, rfl⟩ := hv
    refine ⟨a, 0, 0, rfl, rfl, Nat.le_refl _, Nat.zero_le _, fun l h h6 h7 h8 => ?_⟩
    obtain rfl : l = 0 := by omega
    obtain rfl : h = 0 := by omega
    simp [winS, VR]
  · simp at hl

theorem slice_run {P : Program} {t e : TypeId} (ht : P.underlying t = some (.slice e)) {sz : Nat} {w : World} (hs : (sizeOf e).run P w = .ok sz w) {a : Option Addr} {n cap : Nat} {lo hi : Option Value} {l h : Int}
    (hlo : (lo = none ∧ l = 0) ∨ ∃ k, lo = some (.int k l)) (hhi : (hi = none ∧ h = n) ∨ ∃ k, hi = some (.int k h)) (h0 : 0 ≤ l) (h1 : l ≤ h) (h2 : h ≤ n) (h3 : n ≤ cap) :
    (Instr.sliceAt t (.slice a n cap) lo hi none).run P w = .ok (.slice (if cap = l.toNat then a else a.map (·.add (l.toNat * sz))) (h.toNat - l.toNat) (cap - l.toNat)) w := by
  have sb : ∀ k (x : Int) (y : Nat) c, 0 ≤ x → x ≤ y → (Instr.sliceBound (.int k x) y c).run P w = .ok x.toNat w := by
    intro k x y c hx hy
    simp [Instr.sliceBound, asIntOf, hx, hy]
  have sb0 : (Instr.sliceBounds true n cap lo hi none).run P w = .ok (l.toNat, h.toNat, cap) w := by
    rcases hlo with ⟨rfl, rfl⟩ | ⟨k, rfl⟩ <;> rcases hhi with ⟨rfl, rfl⟩ | ⟨k', rfl⟩ <;> simp [Instr.sliceBounds]
    · rw [sb _ _ _ _ (by omega) (by omega)]; simp
    · rw [sb _ _ _ _ (by omega) (by omega)]; simp
    · rw [sb _ _ _ _ (by omega) (by omega)]
      simp only [Result.andThen_ok]
      rw [sb _ _ _ _ (by omega) (by omega)]
      simp
  simp [Instr.sliceAt, Instr.slice, run_underlying ht, sb0, hs]

theorem slice3_run {P : Program} {t e : TypeId} (ht : P.underlying t = some (.slice e)) {sz : Nat} {w : World} (hs : (sizeOf e).run P w = .ok sz w) {a : Option Addr} {n cap : Nat} {h m : Int} {k k' : IntKind}
    (h1 : 0 ≤ h) (h2 : h ≤ m) (h3 : m ≤ cap) :
    (Instr.sliceAt t (.slice a n cap) none (some (.int k h)) (some (.int k' m))).run P w = .ok (.slice a h.toNat m.toNat) w := by
  have sb : ∀ k (x : Int) (y : Nat) c, 0 ≤ x → x ≤ y → (Instr.sliceBound (.int k x) y c).run P w = .ok x.toNat w := by
    intro k x y c hx hy
    simp [Instr.sliceBound, asIntOf, hx, hy]
  have sb0 : (Instr.sliceBounds true n cap none (some (.int k h)) (some (.int k' m))).run P w = .ok (0, h.toNat, m.toNat) w := by
    simp only [Instr.sliceBounds, Sem.run_bind]
    rw [sb _ _ _ _ (by omega) (by omega)]
    simp only [Result.andThen_ok]
    rw [sb _ _ _ _ (by omega) (by omega)]
    simp
  simp [Instr.sliceAt, Instr.slice, run_underlying ht, sb0, hs]
  cases a <;> simp [Addr.add]

theorem optD_rel {m : Mem} {env : Env} {a : Act} {x : Option Operand} (h : ∀ y, x = some y → VR m (opd env y) (a.eval y)) {n : Int} (hn : (optD env x).bind intOf? = some n) : ∃ k, x.map a.eval = some (.int k n) := by
  cases x with
  | none => simp [optD] at hn
  | some y =>
    simp [optD] at hn
    obtain ⟨k, hk⟩ := intOf_rel hn (h y rfl)
    exact ⟨k, by simp [hk]⟩

theorem done_slice {T : TypeId} {x : Operand} {lo hi mx : Option Operand} (ho : o.op = .slice T x lo hi mx) (h : evR C o env O nx W K = some r) : Done C o env O nx W K r := by
  simp only [evR, ho] at h
  unfold sliceD at h
  split at h
  · rename_i et hT
    cases hz : Nat.blt 0 (C.P.cellsOf et) <;> simp only [hz, cond_true, cond_false] at h
    · simp at h
    simp only [Nat.blt_eq] at hz
    obtain ⟨i, hi', hs⟩ := info_of_cells hz
    have hsz : ∀ w, (sizeOf et).run C.P w = .ok (C.P.cellsOf et) w := fun w => by simp [sizeOf, typeInfo, hi', hs]
    split at h
    · simp at h
    · rename_i len hlen
      split at h
      · rename_i md hmx
        split at h
        · rename_i hv mv hlo hhi hmi
          have hlo' : lo = none := by cases lo <;> simp_all [optD]
          subst hlo'
          cases hc : decide (hv = 0) && decide (mv = 0) <;> simp only [hc, cond_true, cond_false] at h
          · cases hb : isSlD (opd env x) && decide (0 ≤ hv) && decide (hv ≤ mv) && decide (mv ≤ len) <;> simp only [hb, cond_true, cond_false] at h
            · simp at h
            simp only [Bool.and_eq_true, decide_eq_true_eq] at hb
            refine Done.pure h fun base w0 N0 m O' a hm ha hO => ?_
            obtain ⟨aa, n, cap, h1, h2, h3, h4, h5⟩ := winS_rel hm hO hlen (ha x (by simp [ho, Op.operands]))
            obtain ⟨k, hk⟩ := optD_rel (a := a) (fun y hy => ha y (by subst hy; simp [ho, Op.operands])) hhi
            have hmi' : (optD env mx).bind intOf? = some mv := by rw [hmx]; simpa using hmi
            obtain ⟨k', hk'⟩ := optD_rel (a := a) (fun y hy => ha y (by subst hy; simp [ho, Op.operands])) hmi'
            have := slice3_run hT (hsz m.w) (a := aa) (n := n) (cap := cap) (k := k) (k' := k') hb.1.1.2 hb.1.2 (by omega)
            refine ⟨.slice aa hv.toNat mv.toNat, by simp only [execOp, ho, h1, hk, hk', Option.map_none, Sem.run_bind, this, Result.andThen_ok, Sem.run_pure], ?_⟩
            have hx := ha x (by simp [ho, Op.operands])
            have hlen' := hlen
            revert hb hlen' hx
            generalize opd env x = dx
            intro hb hx hlen'
            cases dx with
            | dat t xs =>
              cases t with
              | sl e =>
                have hlen'' : (bif Nat.beq (csz e) (C.P.cellsOf et) then some ((List.length (α := El e) xs : Nat) : Int) else none) = some len := hlen'
                cases hq : Nat.beq (csz e) (C.P.cellsOf et) <;> simp only [hq, cond_true, cond_false] at hlen''
                · simp at hlen''
                simp at hlen''
                obtain ⟨a1, n1, cap1, e1, e2, e3, e4, e5⟩ := of_sl hx
                rw [h1] at e1
                simp at e1
                obtain ⟨rfl, rfl, rfl⟩ := e1
                simp only [winS]
                refine dat_sl ⟨_, _, _, rfl, ?_, by omega, by omega, ?_⟩
                · rw [sub_len (by omega) hb.1.1.2 (by omega)]; simp
                · by_cases h0 : hv.toNat = 0
                  · exact .inl h0
                  · right
                    rcases e5 with e5 | ⟨b, q, ha', hb', hx'⟩
                    · omega
                    · refine ⟨b, q, ha', hb', fun i y hi => ?_⟩
                      rw [sub_get (by omega) hb.1.1.2 (by omega)] at hi
                      split at hi
                      · simp only [Int.toNat_zero, Nat.zero_add] at hi
                        exact hx' i y hi
                      · simp at hi
              | _ => simp [isSlD] at hb
            | _ => simp [isSlD] at hb
          · simp only [Bool.and_eq_true, decide_eq_true_eq] at hc
            obtain ⟨rfl, rfl⟩ := hc
            refine Done.pure h fun base w0 N0 m O' a hm ha hO => ?_
            obtain ⟨aa, n, cap, h1, h2, h3, h4, h5⟩ := winS_rel hm hO hlen (ha x (by simp [ho, Op.operands]))
            obtain ⟨k, hk⟩ := optD_rel (a := a) (fun y hy => ha y (by subst hy; simp [ho, Op.operands])) hhi
            have hmi' : (optD env mx).bind intOf? = some 0 := by rw [hmx]; simpa using hmi
            obtain ⟨k', hk'⟩ := optD_rel (a := a) (fun y hy => ha y (by subst hy; simp [ho, Op.operands])) hmi'
            have := slice3_run hT (hsz m.w) (a := aa) (n := n) (cap := cap) (k := k) (k' := k') (Int.le_refl 0) (Int.le_refl 0) (by omega)
            simp only [Int.toNat_zero] at this
            refine ⟨.slice aa 0 0, by simp only [execOp, ho, h1, hk, hk', Option.map_none, Sem.run_bind, this, Result.andThen_ok, Sem.run_pure], ?_⟩
            simp only [VR]
            exact ⟨aa, rfl⟩
        · simp at h
      · rename_i hmx
        have hmx' : mx = none := by cases mx <;> simp_all [optD]
        subst hmx'
        split at h
        · rename_i lv hv hlo hhi
          cases hb : decide (0 ≤ lv) && decide (lv ≤ hv) && decide (hv ≤ len) <;> simp only [hb, cond_true, cond_false] at h
          · simp at h
          simp only [Bool.and_eq_true, decide_eq_true_eq] at hb
          refine Done.pure h fun base w0 N0 m O' a hm ha hO => ?_
          obtain ⟨aa, n, cap, h1, h2, h3, h4, h5⟩ := winS_rel hm hO hlen (ha x (by simp [ho, Op.operands]))
          have elo : (lo.map a.eval = none ∧ lv = 0) ∨ ∃ k, lo.map a.eval = some (.int k lv) := by
            cases lo with
            | none => left; simp [optD] at hlo; exact ⟨rfl, hlo.symm⟩
            | some y => right; exact optD_rel (a := a) (env := env) (fun z hz => ha z (by simp at hz; subst hz; simp [ho, Op.operands])) (by simpa [optD] using hlo)
          have ehi : (hi.map a.eval = none ∧ hv = n) ∨ ∃ k, hi.map a.eval = some (.int k hv) := by
            cases hi with
            | none => left; simp [optD] at hhi; exact ⟨rfl, by omega⟩
            | some y => right; exact optD_rel (a := a) (env := env) (fun z hz => ha z (by simp at hz; subst hz; simp [ho, Op.operands])) (by simpa [optD] using hhi)
          have := slice_run hT (hsz m.w) (a := aa) elo ehi hb.1.1 hb.1.2 (by omega) h3
          exact ⟨_, by simp only [execOp, ho, h1, Option.map_none, Sem.run_bind, this, Result.andThen_ok, Sem.run_pure], h5 lv hv hb.1.1 hb.1.2 hb.2⟩
        · simp at h
  · simp at h
end
end Go.AM
