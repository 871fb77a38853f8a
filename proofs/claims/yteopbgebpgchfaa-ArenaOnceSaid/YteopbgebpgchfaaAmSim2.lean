/- DERIVED. NO CLAIM IN IT. A stretch of a region, done in any order that is allowed. -/
import Derived.Test.YteopbgebpgchfaaAmSim1
import Derived.Test.YteopbgebpgchfaaAmW3
set_option linter.unusedVariables false
set_option linter.unusedSimpArgs false
namespace Go.AM

theorem fval_of {P : Program} {o : Oper} {x : Operand} {a : Act} {w : World} {Q : Act → World → Prop} (h : fsrc o.op = some x) (hw : o.wp P a w Q No) : ∃ v, fval o.op (a.eval x) = some v := by
  unfold fsrc at h
  split at h
  · rename_i y hop
    simp at h
    subst h
    exact ⟨_, by rw [hop]; rfl⟩
  · rename_i y j hop
    simp at h
    subst h
    rw [hop]
    simp only [fval]
    unfold Oper.wp at hw
    have he : execOp a.eval o = (do let v ← Instr.extract (a.eval y) j; pure (.value v)) := by simp [execOp, hop]
    split
    · rename_i vs hvs
      cases hj : vs[j]? with
      | some v => exact ⟨v, rfl⟩
      | none =>
        rw [he, hvs] at hw
        simp only [Instr.extract, hj] at hw
        exact absurd hw (by intro h; exact h)
    · rename_i hne
      rw [he] at hw
      unfold Instr.extract at hw
      split at hw
      · rename_i vs hvs; exact (hne vs hvs).elim
      · exact absurd hw (by intro h; exact h)
  · simp at h

theorem op_steps {P : Program} {o : Oper} {a : Act} {w : World} {X : Act → World → Prop} (h : o.wp P a w X No) {ops : Array Oper} {i : Nat} (ho : ops[i]? = some o) (hw : Region.wanted o (yielded ops a.tmps) = true)
    (b : Frame) (k : List Item) (cs : List Frame) (rest : List Nat) :
    ∃ a' w', X a' w' ∧ Steps P (lone (b.at a (.inRegion ops (i :: rest) :: k)) cs w) (lone (b.at a' (.inRegion ops rest :: k)) cs w') := by
  simp only [Oper.wp, Oper.upon] at h
  have hg := stepG_op (P := P) (b := b) (k := k) (cs := cs) (w := w) (rest := rest) ho hw
  have hfin : ∀ v, (b.at a (.inRegion ops (i :: rest) :: k)).finish v = b.at (a.put o.dst v) (.inRegion ops rest :: k) := by
    intro v; rw [Frame.finish_at, ho]; rfl
  split at h
  · rename_i v w' hr
    refine ⟨_, _, h, .one (step_lone_go ?_)⟩
    rw [hg, ← hfin]; simp [stepG.apply, hr]
  · rename_i w' hr
    refine ⟨_, _, h, .one (step_lone_go ?_)⟩
    rw [hg, ← hfin]; simp [stepG.apply, hr]
  · rename_i d w' hr
    refine ⟨_, _, h, .one (step_lone_go ?_)⟩
    have : ({ b.at a (.inRegion ops (i :: rest) :: k) with defers := d :: a.defers } : Frame).finish undef =
        b.at ({ a with defers := d :: a.defers }.put o.dst undef) (.inRegion ops rest :: k) := by
      have := Frame.finish_at b { a with defers := d :: a.defers } ops i rest k undef
      rw [ho] at this; exact this
    rw [hg]; simp only [stepG.apply, Sem.runT_eq, hr, GStep.bare_after]
    exact congrArg (fun fr => GStep.go { frame := fr, callers := cs, status := .running, dying := none } w') this
  · rename_i f args w' hr
    obtain ⟨e, w'', fr, hR, hsteps, _, hleave⟩ := h (b.at a (.inRegion ops (i :: rest) :: k) :: cs)
    have henter : step P (lone (b.at a (.inRegion ops (i :: rest) :: k)) cs w) =
        .next (lone (Frame.enter P f args .normal) (b.at a (.inRegion ops (i :: rest) :: k) :: cs) w') :=
      step_lone_go (by rw [hg]; simp [stepG.apply, hr, Frame.at])
    cases e with
    | returned v =>
      refine ⟨_, _, hR, .head henter (Steps.trans hsteps (.one ?_))⟩
      rw [← hfin]; exact step_leave_returned hleave
    | panicked chain => exact hR.elim
    | outgrown =>
      obtain ⟨_, _, hq⟩ := hR
      exact hq.elim
  · rename_i row args w' hr
    obtain ⟨v, w'', hR, hsteps⟩ := h (b.at a (.inRegion ops (i :: rest) :: k)) cs
    have henter : step P (lone (b.at a (.inRegion ops (i :: rest) :: k)) cs w) =
        .next (lone (Frame.ofRow P row args .normal) (b.at a (.inRegion ops (i :: rest) :: k) :: cs) w') :=
      step_lone_go (by rw [hg]; simp [stepG.apply, hr, Frame.at])
    refine ⟨_, _, hR, .head henter ?_⟩
    rw [← hfin]; exact hsteps
  · exact h.elim
  · exact h.elim

/-! ### Values, where some of the operations have been done -/
def vA (V0 : Nat → DV) (dst : Nat → Option Nat) (D : Nat → DV) (Dn : Nat → Bool) : Nat → Nat → DV
  | 0, x => V0 x
  | j + 1, x => if Dn j = true ∧ dst j = some x then D j else vA V0 dst D Dn j x

theorem vA_congr {V0 : Nat → DV} {dst : Nat → Option Nat} {D : Nat → DV} {Dn Dn' : Nat → Bool} {x : Nat} : ∀ {j : Nat}, (∀ s, s < j → dst s = some x → Dn s = Dn' s) → vA V0 dst D Dn j x = vA V0 dst D Dn' j x
  | 0, _ => rfl
  | j + 1, h => by
    have ih := vA_congr (V0 := V0) (D := D) (j := j) (fun s hs => h s (by omega))
    simp only [vA, ih]
    by_cases e : dst j = some x
    · rw [h j (by omega) e]
    · simp [e]

theorem vA_put {V0 : Nat → DV} {dst : Nat → Option Nat} {D : Nat → DV} {Dn : Nat → Bool} {x t : Nat} : ∀ {j : Nat}, t < j → Dn t = false → (∀ s, t < s → s < j → Dn s = true → dst s = some x → dst t = some x → False) →
    vA V0 dst D (fun s => Dn s || Nat.beq s t) j x = if dst t = some x then D t else vA V0 dst D Dn j x
  | 0, h, _, _ => by omega
  | j + 1, h, hf, hn => by
    by_cases e : t = j
    · subst e
      have hc : vA V0 dst D (fun s => Dn s || Nat.beq s t) t x = vA V0 dst D Dn t x := vA_congr fun s hs _ => by
        have : Nat.beq s t = false := by
          cases hb : Nat.beq s t
          · rfl
          · have := Nat.eq_of_beq_eq_true hb; omega
        simp [this]
      simp only [vA, hc, hf, Nat.beq_refl, Bool.or_true, true_and, Bool.false_eq_true, false_and, if_false]
    · have hb : Nat.beq j t = false := by
        cases hb : Nat.beq j t
        · rfl
        · have := Nat.eq_of_beq_eq_true hb; omega
      have ih := vA_put (V0 := V0) (D := D) (x := x) (j := j) (by omega) hf (fun s h1 h2 => hn s h1 (by omega))
      simp only [vA, ih, hb, Bool.or_false]
      by_cases hd : dst t = some x
      · by_cases h1 : Dn j = true ∧ dst j = some x
        · exact (hn j (by omega) (by omega) h1.1 h1.2 hd).elim
        · simp only [hd, if_true]
          rw [if_neg h1]
      · simp only [hd, if_false]

theorem vA_stop {V0 : Nat → DV} {dst : Nat → Option Nat} {D : Nat → DV} {t x : Nat} : ∀ {j : Nat}, t ≤ j → vA V0 dst D (fun s => Nat.blt s t) j x = vA V0 dst D (fun _ => true) t x
  | 0, h => by
    have : t = 0 := by omega
    subst this; rfl
  | j + 1, h => by
    by_cases e : t = j + 1
    · subst e
      exact vA_congr fun s hs _ => by simp [Nat.blt_eq, hs]
    · have hb : Nat.blt j t = false := by
        cases hb : Nat.blt j t
        · rfl
        · rw [Nat.blt_eq] at hb; omega
      simp only [vA, hb, Bool.false_eq_true, false_and, if_false]
      exact vA_stop (by omega)

/-- What is planned for an operation. -/
structure Pl where
  d : DV
  news : List Blk
  go : Bool
  st : Option (Nat × Blk) := none

def dstAt (ops : Array Oper) (i0 t : Nat) : Option Nat := (ops[i0 + t]?).bind (·.dst)

def envA (ops : Array Oper) (i0 : Nat) (e : Env) (F : Nat → Pl) : Nat → Env
  | 0 => e
  | t + 1 => putD (dstAt ops i0 t) (F t).d (envA ops i0 e F t)

def heapA (O : Heap) (F : Nat → Pl) : Nat → Heap
  | 0 => O
  | t + 1 => heapA O F t ++ (F t).news

def WantD (ops : Array Oper) (e : Env) (o : Oper) (go : Bool) : Prop :=
  match o.guard with
  | none => go = true
  | some (j, want) => ∃ t, (ops[j]?).bind (·.dst) = some t ∧ ((∃ v, look e t = .dat .bool v ∧ go = ((v : Bool) == want)) ∨ ∃ vs, look e t = .raw (.tuple vs) ∧ go = false)

/-- A store into a variable of one's own, told ahead. -/
def StoreOK (C : Ctx) (o : Oper) (e : Env) (O : Heap) (hot : List Nat) (p : Pl) : Prop :=
  ∃ T a x n off T' old, o.op = .store T a x ∧ o.dst = none ∧ opd e a = .ptr n off ∧ n ∈ hot ∧ O[n]? = some (.cells T' old) ∧ off + (cellsOf (opd e x)).length ≤ old.length ∧ sized (opd e x) (C.P.cellsOf T) = true ∧ 0 < C.P.cellsOf T ∧
    (cellsOf (opd e x)).all leafD = true ∧ p.st = some (n, .cells T' (putAt old off (cellsOf (opd e x)))) ∧ p.d = .un ∧ p.news = []

def StepOK (C : Ctx) (ops : Array Oper) (nt j : Nat) (e : Env) (O : Heap) (hot : List Nat) (p : Pl) : Prop :=
  ∃ o, ops[j]? = some o ∧ dstOk o.dst nt = true ∧ WantD ops e o p.go ∧ (∀ B ∈ p.news, B ≠ Blk.dead) ∧
    (p.go = true → p.st = none ∧ OpOK C o e (deads hot O) O.length p.d p.news ∨ StoreOK C o e O hot p) ∧ (p.go = false → p.d = .raw undef ∧ p.news = [] ∧ p.st = none)

/-! ### Heaps, where some of the stores have been done -/
def setsD (F : Nat → Pl) (Dn : Nat → Bool) : Nat → Heap → Heap
  | 0, H => H
  | t + 1, H => match (F t).st with
    | some (n, B) => bif Dn t then (setsD F Dn t H).set n B else setsD F Dn t H
    | none => setsD F Dn t H

theorem setsD_len (F : Nat → Pl) (Dn : Nat → Bool) (H : Heap) : ∀ L, (setsD F Dn L H).length = H.length
  | 0 => rfl
  | L + 1 => by
    have ih := setsD_len F Dn H L
    simp only [setsD]
    split
    · cases Dn L <;> simp [ih]
    · exact ih

theorem setsD_out {F : Nat → Pl} {Dn : Nat → Bool} {H : Heap} {k : Nat} : ∀ {L : Nat}, (∀ t n B, t < L → (F t).st = some (n, B) → Dn t = true → n ≠ k) → (setsD F Dn L H)[k]? = H[k]?
  | 0, _ => rfl
  | L + 1, h => by
    have ih := setsD_out (F := F) (Dn := Dn) (H := H) (k := k) (L := L) (fun t n B ht => h t n B (by omega))
    simp only [setsD]
    split
    · rename_i n B hs
      cases hd : Dn L with
      | true =>
        simp only [cond_true]
        rw [List.getElem?_set_ne (h L n B (by omega) hs hd)]
        exact ih
      | false => exact ih
    · exact ih

theorem setsD_congr {F : Nat → Pl} {Dn Dn' : Nat → Bool} {H : Heap} : ∀ {L : Nat}, (∀ t, t < L → (F t).st ≠ none → Dn t = Dn' t) → setsD F Dn L H = setsD F Dn' L H
  | 0, _ => rfl
  | L + 1, h => by
    have ih := setsD_congr (F := F) (Dn := Dn) (Dn' := Dn') (H := H) (L := L) (fun t ht => h t (by omega))
    simp only [setsD, ih]
    split
    · rename_i n B hs
      rw [h L (by omega) (by rw [hs]; simp)]
    · rfl

theorem setsD_none {F : Nat → Pl} {H : Heap} : ∀ {L : Nat}, setsD F (fun _ => false) L H = H
  | 0 => rfl
  | L + 1 => by
    have ih := setsD_none (F := F) (H := H) (L := L)
    simp only [setsD, ih]
    split <;> rfl

/-- No two stores into one place. -/
def Dist (F : Nat → Pl) (L : Nat) : Prop := ∀ s t n B B', s < L → t < L → (F s).st = some (n, B) → (F t).st = some (n, B') → s = t

theorem setsD_put {F : Nat → Pl} {Dn : Nat → Bool} {H : Heap} {t n : Nat} {B : Blk} : ∀ {L : Nat}, Dist F L → t < L → (F t).st = some (n, B) → Dn t = false →
    setsD F (fun s => Dn s || Nat.beq s t) L H = (setsD F Dn L H).set n B
  | 0, _, h, _, _ => by omega
  | L + 1, hd, h, hs, hf => by
    by_cases e : t = L
    · subst e
      have hc : setsD F (fun s => Dn s || Nat.beq s t) t H = setsD F Dn t H := setsD_congr fun s hs _ => by
        have : Nat.beq s t = false := by
          cases hb : Nat.beq s t
          · rfl
          · have := Nat.eq_of_beq_eq_true hb; omega
        simp [this]
      simp only [setsD, hs, hc, hf, Nat.beq_refl, Bool.or_true, cond_true, cond_false]
    · have hb : Nat.beq L t = false := by
        cases hb : Nat.beq L t
        · rfl
        · have := Nat.eq_of_beq_eq_true hb; omega
      have ih := setsD_put (F := F) (Dn := Dn) (H := H) (L := L) (fun a b n B B' ha hb => hd a b n B B' (by omega) (by omega)) (by omega) hs hf
      simp only [setsD, ih, hb, Bool.or_false]
      split
      · rename_i n' B' hs'
        have hne : n ≠ n' := by
          rintro rfl
          exact e (hd t L n B B' (by omega) (by omega) hs hs')
        cases Dn L with
        | true => exact List.set_comm _ _ hne
        | false => rfl
      · rfl

theorem deads_len : ∀ (hot : List Nat) (H : Heap), (deads hot H).length = H.length
  | [], H => rfl
  | n :: r, H => by simp [deads, deads_len r]

theorem deads_get : ∀ {hot : List Nat} {H : Heap} {k : Nat} {B : Blk}, (deads hot H)[k]? = some B → B ≠ .dead → k ∉ hot ∧ H[k]? = some B
  | [], H, k, B, h, _ => ⟨by simp, h⟩
  | n :: r, H, k, B, h, hB => by
    obtain ⟨h1, h2⟩ := deads_get (hot := r) h hB
    by_cases e : n = k
    · subst e
      by_cases hl : n < H.length
      · rw [List.getElem?_set_self hl] at h2
        simp at h2
        exact (hB h2.symm).elim
      · rw [List.getElem?_eq_none (by simpa using hl)] at h2
        simp at h2
    · rw [List.getElem?_set_ne e] at h2
      exact ⟨by simp [h1, Ne.symm e], h2⟩

theorem deads_set : ∀ {hot : List Nat} {H : Heap} {n : Nat} {B : Blk}, n ∈ hot → deads hot (H.set n B) = deads hot H
  | [], H, n, B, h => by simp at h
  | k :: r, H, n, B, h => by
    simp only [deads]
    by_cases e : n = k
    · subst e
      simp
    · have hr : n ∈ r := by simpa [e] using h
      rw [List.set_comm _ _ e]
      exact deads_set hr

theorem look_putD (dst : Option Nat) (d : DV) (e : Env) (x : Nat) : look (putD dst d e) x = if dst = some x then d else look e x := by
  cases dst with
  | none => simp [putD]
  | some k => simp only [putD, look_cons, Option.some.injEq]

theorem look_envA (ops : Array Oper) (i0 : Nat) (e : Env) (F : Nat → Pl) : ∀ t x, look (envA ops i0 e F t) x = vA (look e) (dstAt ops i0) (fun s => (F s).d) (fun _ => true) t x
  | 0, x => rfl
  | t + 1, x => by simp only [envA, look_putD, vA, look_envA ops i0 e F t x, true_and]

theorem heapA_pre (O : Heap) (F : Nat → Pl) {t : Nat} : ∀ {s : Nat}, t ≤ s → ∃ r, heapA O F s = heapA O F t ++ r
  | 0, h => ⟨[], by have : t = 0 := by omega
                    subst this; simp⟩
  | s + 1, h => by
    by_cases e : t = s + 1
    · subst e; exact ⟨[], by simp⟩
    · obtain ⟨r, hr⟩ := heapA_pre O F (t := t) (s := s) (by omega)
      exact ⟨r ++ (F s).news, by simp [heapA, hr]⟩

theorem heapA_old {O : Heap} {F : Nat → Pl} {t s : Nat} (h : t ≤ s) {n : Nat} {B : Blk} (hb : (heapA O F t)[n]? = some B) : (heapA O F s)[n]? = some B := by
  obtain ⟨r, hr⟩ := heapA_pre O F h
  rw [hr, List.getElem?_append_left (List.getElem?_eq_some_iff.1 hb).1]
  exact hb

theorem heapA_new {O : Heap} {F : Nat → Pl} {t s : Nat} (h : t < s) {k : Nat} {B : Blk} (hb : (F t).news[k]? = some B) : (heapA O F s)[(heapA O F t).length + k]? = some B := by
  refine heapA_old (t := t + 1) (by omega) ?_
  simp only [heapA]
  rw [List.getElem?_append_right (by omega)]
  simpa using hb

theorem heapA_len {O : Heap} {F : Nat → Pl} {t s : Nat} (h : t < s) : (heapA O F t).length + (F t).news.length ≤ (heapA O F s).length := by
  obtain ⟨r, hr⟩ := heapA_pre O F (t := t + 1) (s := s) (by omega)
  rw [hr]
  simp [heapA]

theorem Ext.MR_len {base : Nat} {w0 : World} {N0 : Nat → Prop} {m : Mem} {O : Heap} (h : MR base w0 N0 m O) {n : Nat} {v : Value} (hr : m.ρ n = some v) : n < O.length := by
  obtain ⟨B, h1, _⟩ := h.blk n v hr
  exact (List.getElem?_eq_some_iff.1 h1).1

theorem bool_get {m : Mem} {t : Nat} {v : Bool} {a : Act} (h : VR m (.dat .bool v) (a.tmps.getD t undef)) : a.tmps[t]? = some (.bool v) := by
  have := of_bool h
  rw [Array.getD_eq_getD_getElem?] at this
  cases ht : a.tmps[t]? with
  | none => rw [ht] at this; simp [undef] at this
  | some u => rw [ht] at this; simpa using this

theorem wanted_of {ops : Array Oper} {e : Env} {o : Oper} {go : Bool} (h : WantD ops e o go) {a : Act} {m : Mem} (hv : ∀ t ∈ tmpsOf o ops, VR m (look e t) (a.tmps.getD t undef)) : Region.wanted o (yielded ops a.tmps) = go := by
  unfold WantD at h
  unfold Region.wanted
  split at h
  · rename_i hg; simp [hg, h]
  · rename_i j want hg
    obtain ⟨t, h1, h⟩ := h
    have := hv t (by simp [tmpsOf, hg, h1])
    rcases h with ⟨v, h2, h3⟩ | ⟨vs, h2, h3⟩
    · rw [h2] at this
      have := bool_get this
      simp [hg, yielded, h1, this, h3]
    · rw [h2] at this
      simp only [VR] at this
      rw [Array.getD_eq_getD_getElem?] at this
      cases ht : a.tmps[t]? with
      | none => simp [hg, yielded, h1, ht, h3]
      | some u =>
        rw [ht] at this
        simp at this
        simp [hg, yielded, h1, ht, this, h3]

theorem opds_of {o : Oper} {ops : Array Oper} {e : Env} {a : Act} {m : Mem} (hv : ∀ t ∈ tmpsOf o ops, VR m (look e t) (a.tmps.getD t undef)) : ∀ x ∈ o.op.operands, VR m (opd e x) (a.eval x) := by
  intro x hx
  cases x with
  | tmp t =>
    refine hv t ?_
    simp only [tmpsOf, List.mem_append, List.mem_filterMap]
    exact .inl ⟨.tmp t, by simpa using hx, rfl⟩
  | const v => exact ofConst_rel m v
  | global g => simp only [opd, VR, Act.eval]
  | func f => simp only [opd, VR, Act.eval]

theorem put_getD {a : Act} {dst : Option Nat} {nt : Nat} (hd : dstOk dst nt = true) (hn : nt ≤ a.tmps.size) (v : Value) (x : Nat) : (a.put dst v).tmps.getD x undef = if dst = some x then v else a.tmps.getD x undef := by
  cases dst with
  | none => simp [Act.put]
  | some k =>
    simp only [dstOk, Nat.blt_eq] at hd
    by_cases e : k = x
    · subst e; simp [Act.put, show k < a.tmps.size by omega]
    · simp [Act.put, Array.getD_eq_getD_getElem?, Array.getElem?_setIfInBounds, e]

theorem put_size (a : Act) (dst : Option Nat) (v : Value) : (a.put dst v).tmps.size = a.tmps.size := by cases dst <;> simp [Act.put]
theorem put_defers' (a : Act) (dst : Option Nat) (v : Value) : (a.put dst v).defers = a.defers := by cases dst <;> simp [Act.put]

theorem sub_sets {O : Heap} {F : Nat → Pl} {Dn : Nat → Bool} {hot : List Nat} {t L : Nat} (ht : t ≤ L) (hhot : ∀ s n B, s < L → (F s).st = some (n, B) → n ∈ hot) : ∀ (n : Nat) B, B ≠ Blk.dead → (deads hot (heapA O F t))[n]? = some B → (setsD F Dn L (heapA O F L))[n]? = some B := by
  intro k B hB h
  obtain ⟨h1, h2⟩ := deads_get h hB
  rw [setsD_out (fun s n B' hs hst _ e => h1 (by rw [← e]; exact hhot s n B' hs hst))]
  exact heapA_old ht h2

theorem new_sets {O : Heap} {F : Nat → Pl} {Dn : Nat → Bool} {hot : List Nat} {t L : Nat} (ht : t < L) (hlo : ∀ s n B, s < L → (F s).st = some (n, B) → n < O.length) {k : Nat} {B : Blk} (hb : (F t).news[k]? = some B) : (setsD F Dn L (heapA O F L))[(heapA O F t).length + k]? = some B := by
  rw [setsD_out (fun s n B' hs hst _ e => by
    have h1 := hlo s n B' hs hst
    obtain ⟨r, hr⟩ := heapA_pre O F (Nat.zero_le t)
    have : O.length ≤ (heapA O F t).length := by rw [hr]; simp [heapA]
    omega)]
  exact heapA_new ht hb

/-! ### What may not be done yet -/
def RegR (ops : Array Oper) (i : Nat) (rest : List Nat) : Prop :=
  Ord ops (fun s => s < i ∧ s ∉ rest) rest ∧ Closed ops (fun s => s < i ∧ s ∉ rest) ∧ ∀ q ∈ rest, q < i → floatOp ops q = true ∧ tailQ ops i = true

/-- The frame as it is (ra), and as it would be if all plain moves so far were done (a). -/
def VirtR (ops : Array Oper) (i : Nat) (rest : List Nat) (ra a : Act) : Prop :=
  ra.tmps.size = a.tmps.size ∧ ra.defers = a.defers ∧
  (∀ q ∈ rest, q < i → ∀ o d x, ops[q]? = some o → o.dst = some d → fsrc o.op = some x → d < ra.tmps.size ∧ fval o.op (a.eval x) = some (a.tmps.getD d undef)) ∧
  ∀ t, (∀ q ∈ rest, q < i → ∀ o, ops[q]? = some o → o.dst ≠ some t) → a.tmps.getD t undef = ra.tmps.getD t undef

theorem Ord.mem {ops : Array Oper} : ∀ {r : List Nat} {S : Nat → Prop}, Ord ops S r → ∀ j, j < ops.size → ¬ S j → j ∈ r
  | [], S, h, j, hj, hn => (hn (h j hj)).elim
  | i :: r, S, ⟨_, _, _, q4⟩, j, hj, hn => by
    by_cases e : j = i
    · subst e; simp
    · exact List.mem_cons_of_mem _ (Ord.mem q4 j hj (by rintro (h | h); exact hn h; exact e h))

theorem RegR.plain {ops : Array Oper} (hb : Back ops) {i : Nat} {rest : List Nat} (h : Ord ops (fun s => s < i) rest) : RegR ops i rest := by
  have hn := Ord.not_mem h
  have hiff : ∀ j, j < i ↔ j < i ∧ j ∉ rest := fun j => ⟨fun q => ⟨q, fun hm => hn j hm q⟩, fun q => q.1⟩
  refine ⟨Ord.congr hiff h, fun j o e ho hj he hbi => ?_, fun q hq hlt => (hn q hq hlt).elim⟩
  have := hb j o e ho he hbi
  exact (hiff _).1 (by omega)

theorem VirtR.refl {ops : Array Oper} {i : Nat} {rest : List Nat} (h : ∀ q ∈ rest, ¬ q < i) (a : Act) : VirtR ops i rest a a :=
  ⟨rfl, rfl, fun q hq hlt => (h q hq hlt).elim, fun _ _ => rfl⟩

theorem act_ext {ra a : Act} (h1 : ra.tmps.size = a.tmps.size) (h2 : ra.defers = a.defers) (h3 : ∀ t, a.tmps.getD t undef = ra.tmps.getD t undef) : ra = a := by
  obtain ⟨x, d⟩ := ra
  obtain ⟨y, d'⟩ := a
  simp only at h1 h2 h3
  subst h2
  congr 1
  apply Array.ext h1
  intro i q1 q2
  have := h3 i
  simp [q1, q2] at this
  exact this.symm

theorem VirtR.same {ops : Array Oper} {i : Nat} {rest : List Nat} (h : ∀ q ∈ rest, ¬ q < i) {ra a : Act} (hv : VirtR ops i rest ra a) : ra = a :=
  act_ext hv.1 hv.2.1 fun t => hv.2.2.2 t fun q hq hlt => (h q hq hlt).elim

/-- The plain moves that are not done yet, done for once. -/
theorem vflush {C : Ctx} {ops : Array Oper} (hok : regOk ops = true) {nt i0 L : Nat} {e : Env} {O : Heap} {F : Nat → Pl} {hot : List Nat} (hall : ∀ t, t < L → StepOK C ops nt (i0 + t) (envA ops i0 e F t) (heapA O F t) hot (F t)) (hdist : Dist F L) (hhot : ∀ s n B, s < L → (F s).st = some (n, B) → n ∈ hot) (hlo : ∀ s n B, s < L → (F s).st = some (n, B) → n < O.length)
    {base : Nat} {w0 : World} {N0 : Nat → Prop} {Dn : Nat → Bool} (a : Act) {m : Mem} (hcl : Closed ops (fun s => s < i0 ∨ ∃ t, t < L ∧ s = i0 + t ∧ Dn t = true)) (hm : MR base w0 N0 m (setsD F Dn L (heapA O F L)))
    (hv : ∀ x, VR m (vA (look e) (dstAt ops i0) (fun s => (F s).d) Dn L x) (a.tmps.getD x undef)) (hfree : ∀ t, t < L → Dn t = false → ∀ q, q < (F t).news.length → m.ρ ((heapA O F t).length + q) = none) (hn : nt ≤ a.tmps.size)
    (hfl : ∀ t, t < L → Dn t = false → floatOp ops (i0 + t) = true) : ∀ T, T ≤ L → ∃ (va : Act) (m' : Mem), m'.w = m.w ∧ Ext m m' ∧ MR base w0 N0 m' (setsD F Dn L (heapA O F L)) ∧ va.tmps.size = a.tmps.size ∧ va.defers = a.defers ∧
      (∀ x, VR m' (vA (look e) (dstAt ops i0) (fun s => (F s).d) (fun s => Dn s || Nat.blt s T) L x) (va.tmps.getD x undef)) ∧
      (∀ t, t < L → Dn t = false → Nat.blt t T = false → ∀ q, q < (F t).news.length → m'.ρ ((heapA O F t).length + q) = none) ∧
      (∀ s, s < T → Dn s = false → ∀ o d x, ops[i0 + s]? = some o → o.dst = some d → fsrc o.op = some x → d < a.tmps.size ∧ fval o.op (va.eval x) = some (va.tmps.getD d undef)) ∧
      (∀ x, (∀ s, s < T → Dn s = false → dstAt ops i0 s ≠ some x) → va.tmps.getD x undef = a.tmps.getD x undef) := by
  intro T
  induction T with
  | zero =>
    intro _
    refine ⟨a, m, rfl, Ext.refl m, hm, rfl, rfl, fun x => ?_, fun t ht hd _ q hq => hfree t ht hd q hq, fun s hs => by omega, fun _ _ => rfl⟩
    have := hv x
    rwa [vA_congr (Dn' := fun s => Dn s || Nat.blt s 0) (fun s _ _ => by
      have : Nat.blt s 0 = false := by
        cases hb : Nat.blt s 0
        · rfl
        · rw [Nat.blt_eq] at hb; omega
      simp [this])] at this
  | succ T ih =>
    intro hT
    obtain ⟨va, m', g1, g2, g3, g4, g5, g6, g7, g8, g9⟩ := ih (by omega)
    have blt_s : ∀ s, s ≠ T → Nat.blt s (T + 1) = Nat.blt s T := by
      intro s hs
      cases h1 : Nat.blt s T with
      | true => rw [Nat.blt_eq] at h1 ⊢; omega
      | false =>
        cases h2 : Nat.blt s (T + 1) with
        | false => rfl
        | true =>
          rw [Nat.blt_eq] at h2
          have : ¬ s < T := fun h => by rw [← Nat.blt_eq, h1] at h; simp at h
          omega
    have bltT : Nat.blt T (T + 1) = true := by rw [Nat.blt_eq]; omega
    have bltF : Nat.blt T T = false := by
      cases hb : Nat.blt T T
      · rfl
      · rw [Nat.blt_eq] at hb; omega
    cases hd : Dn T with
    | true =>
      refine ⟨va, m', g1, g2, g3, g4, g5, fun x => ?_, fun t ht hdt hb q hq => ?_, fun s hs hds => ?_, fun x hx => g9 x fun s hs => hx s (by omega)⟩
      · have := g6 x
        rwa [vA_congr (Dn' := fun s => Dn s || Nat.blt s (T + 1)) (fun s _ _ => by
          by_cases q : s = T
          · subst q; simp [hd]
          · rw [blt_s s q])] at this
      · have : t ≠ T := by rintro rfl; rw [hd] at hdt; simp at hdt
        exact g7 t ht hdt (by rw [← blt_s t this]; exact hb) q hq
      · have : s ≠ T := by rintro rfl; rw [hd] at hds; simp at hds
        exact g8 s (by omega) hds
    | false =>
      have hTL : T < L := by omega
      obtain ⟨o, ho, hdst, hwant, hnd, hgo, hskip⟩ := hall T hTL
      obtain ⟨o', x, d, ho', hx, hod, hguard, hself, huniq⟩ := float_get (hfl T hTL hd)
      rw [ho] at ho'
      simp at ho'
      subst ho'
      have hg : (F T).go = true := by unfold WantD at hwant; rw [hguard] at hwant; exact hwant
      have hopd : ∀ y ∈ tmpsOf o ops, VR m' (look (envA ops i0 e F T) y) (va.tmps.getD y undef) := by
        intro y hy
        have := g6 y
        rwa [vA_congr (Dn' := fun s => Nat.blt s T) ?_, vA_stop (by omega), ← look_envA] at this
        intro s hs hds
        obtain ⟨o', ho', _⟩ := hall s hs
        have hds : o'.dst = some y := by simpa [dstAt, ho'] using hds
        rcases Nat.lt_trichotomy s T with q | q | q
        · have hb : Nat.blt s T = true := by rw [Nat.blt_eq]; exact q
          simp [hb]
        · subst q
          simp [hd]
        · have hb : Nat.blt s T = false := by
            cases hb : Nat.blt s T
            · rfl
            · rw [Nat.blt_eq] at hb; omega
          simp only [hb, Bool.or_false]
          cases hds' : Dn s
          · rfl
          · rcases regOk_disj hok (by omega : i0 + T < i0 + s) ho ho' with h | h
            · rcases ahead_spec hcl h (.inr ⟨s, hs, rfl, hds'⟩) with h | ⟨t', h1, h2, h3⟩
              · omega
              · have : T = t' := by omega
                rw [this] at hd; rw [hd] at h3; simp at h3
            · simp only [disj, hds, Bool.and_eq_true] at h
              have := h.2
              simp at this
              exact (this hy).elim
      have hgo' : OpOK C o (envA ops i0 e F T) (deads hot (heapA O F T)) (heapA O F T).length (F T).d (F T).news := by
        rcases hgo hg with ⟨_, h⟩ | ⟨T0, a0, x0, _, _, _, _, h, _⟩
        · exact h
        · rw [h] at hx; simp [fsrc] at hx
      have hop := hgo' base w0 N0 m' (setsD F Dn L (heapA O F L)) va g3 (opds_of hopd) (sub_sets (by omega) hhot) (fun q B hB => new_sets (hot := hot) hTL hlo hB) (fun q hq => g7 T hTL hd bltF q hq)
        (fun a' w' => ∃ v m'', a' = va.put o.dst v ∧ m''.w = w' ∧ Ext m' m'' ∧ MR base w0 N0 m'' (setsD F Dn L (heapA O F L)) ∧ VR m'' (F T).d v ∧ (∀ n h, m''.ρ n = some h → m'.ρ n = some h ∨ ∃ q, q < (F T).news.length ∧ n = (heapA O F T).length + q))
        (fun v m'' h1 h2 h3 h4 _ => ⟨v, m'', rfl, rfl, h1, h2, h3, h4⟩)
      obtain ⟨fv, hfv⟩ := fval_of hx hop
      have hrun : (execOp va.eval o).run C.P m'.w = .ok (.value fv) m'.w := fval_run hx hfv
      unfold Oper.wp Oper.upon at hop
      rw [hrun] at hop
      obtain ⟨v, m'', e1, e2, e3, e4, e5, e6⟩ := hop
      have hsz : d < va.tmps.size := by
        rw [hod] at hdst
        simp only [dstOk, Nat.blt_eq] at hdst
        exact g4 ▸ (Nat.lt_of_lt_of_le hdst hn)
      have hve : v = fv := by
        have := congrArg (fun z : Act => z.tmps.getD d undef) e1
        simp only [hod, Act.put] at this
        simp [hsz] at this
        exact this.symm
      subst hve
      have hdT : dstAt ops i0 T = some d := by simp [dstAt, ho, hod]
      have hother : ∀ s, s < L → s ≠ T → dstAt ops i0 s ≠ some d := by
        intro s hs hne hds
        obtain ⟨o2, ho2, _⟩ := hall s hs
        have h2 : o2.dst = some d := by simpa [dstAt, ho2] using hds
        exact (huniq (i0 + s) o2 (by omega) ho2).1 h2
      refine ⟨va.put o.dst v, m'', by rw [e2, g1], g2.trans e3, e4, by rw [put_size, g4], by rw [put_defers', g5], fun y => ?_, fun t ht hdt hb q hq => ?_, fun s hs hds o2 d2 x2 ho2 hd2 hx2 => ?_, fun y hy => ?_⟩
      · have hcongr : vA (look e) (dstAt ops i0) (fun s => (F s).d) (fun s => Dn s || Nat.blt s (T + 1)) L y = vA (look e) (dstAt ops i0) (fun s => (F s).d) (fun s => (Dn s || Nat.blt s T) || Nat.beq s T) L y := vA_congr fun s _ _ => by
          by_cases q : s = T
          · subst q; simp [bltT, Nat.beq_refl]
          · have : Nat.beq s T = false := by
              cases hb : Nat.beq s T
              · rfl
              · exact (q (Nat.eq_of_beq_eq_true hb)).elim
            rw [blt_s s q, this, Bool.or_false]
        rw [hcongr, vA_put hTL (by simp [hd, bltF])]
        · rw [hdT, put_getD (nt := va.tmps.size) (by rw [hod]; simp [dstOk, Nat.blt_eq, hsz]) (Nat.le_refl _)]
          by_cases q : d = y
          · subst q
            rw [if_pos rfl, if_pos hod]
            exact e5
          · rw [if_neg (by simpa using q), if_neg (by rw [hod]; simpa using q)]
            exact VR.keep e3 _ _ (g6 y)
        · intro s h1 h2 h3 h4 h5
          rw [hdT] at h5
          rw [← h5] at h4
          exact hother s h2 (by omega) h4
      · have hne : t ≠ T := by rintro rfl; rw [bltT] at hb; simp at hb
        cases hr : m''.ρ ((heapA O F t).length + q) with
        | none => rfl
        | some h =>
          rcases e6 _ _ hr with g | ⟨q', h1, h2⟩
          · rw [g7 t ht hdt (by rw [← blt_s t hne]; exact hb) q hq] at g; simp at g
          · rcases Nat.lt_or_gt_of_ne hne with g | g
            · have := heapA_len (O := O) (F := F) g; omega
            · have := heapA_len (O := O) (F := F) g; omega
      · by_cases q : s = T
        · subst q
          rw [ho] at ho2
          simp at ho2
          subst ho2
          rw [hod] at hd2
          simp at hd2
          subst hd2
          rw [hx] at hx2
          simp at hx2
          subst hx2
          refine ⟨g4 ▸ hsz, ?_⟩
          rw [put_getD (nt := va.tmps.size) (by rw [hod]; simp [dstOk, Nat.blt_eq, hsz]) (Nat.le_refl _), if_pos hod, ← hfv]
          congr 1
          cases x with
          | tmp y =>
            show (va.put o.dst v).tmps.getD y undef = va.tmps.getD y undef
            rw [put_getD (nt := va.tmps.size) (by rw [hod]; simp [dstOk, Nat.blt_eq, hsz]) (Nat.le_refl _), if_neg]
            intro h
            rw [hod] at h
            simp at h
            exact hself (by rw [h])
          | const c => rfl
          | global g => rfl
          | func f => rfl
        · obtain ⟨k1, k2⟩ := g8 s (by omega) hds o2 d2 x2 ho2 hd2 hx2
          refine ⟨k1, ?_⟩
          rw [put_getD (nt := va.tmps.size) (by rw [hod]; simp [dstOk, Nat.blt_eq, hsz]) (Nat.le_refl _), if_neg, ← k2]
          · congr 1
            cases x2 with
            | tmp y =>
              show (va.put o.dst v).tmps.getD y undef = va.tmps.getD y undef
              rw [put_getD (nt := va.tmps.size) (by rw [hod]; simp [dstOk, Nat.blt_eq, hsz]) (Nat.le_refl _), if_neg]
              intro h
              obtain ⟨o3, x3, d3, ho3, hx3, hod3, _, _, huniq3⟩ := float_get (hfl s (by omega) hds)
              rw [ho2] at ho3
              simp at ho3
              subst ho3
              rw [hx2] at hx3
              simp at hx3
              subst hx3
              rcases (huniq3 (i0 + T) o (by omega) ho).2 y rfl h with h4 | ⟨_, _, h4⟩
              · omega
              · rw [hx] at h4; simp at h4
            | const c => rfl
            | global g => rfl
            | func f => rfl
          · intro h
            rw [hod] at h
            simp at h
            subst h
            exact hother s (by omega) q (by simp [dstAt, ho2, hd2])
      · rw [put_getD (nt := va.tmps.size) (by rw [hod]; simp [dstOk, Nat.blt_eq, hsz]) (Nat.le_refl _), if_neg]
        · exact g9 y fun s hs => hy s (by omega)
        · intro h
          exact hy T (by omega) hd (by rw [hdT, ← hod, h])

theorem flush {C : Ctx} {ops : Array Oper} (hok : regOk ops = true) {nt i0 L : Nat} {e : Env} {O : Heap} {F : Nat → Pl} {hot : List Nat} (hall : ∀ t, t < L → StepOK C ops nt (i0 + t) (envA ops i0 e F t) (heapA O F t) hot (F t)) (hdist : Dist F L) (hhot : ∀ s n B, s < L → (F s).st = some (n, B) → n ∈ hot) (hlo : ∀ s n B, s < L → (F s).st = some (n, B) → n < O.length)
    (hseg : ops.size ≤ i0 + L ∨ fixed ops (i0 + L) = true) {base : Nat} {w0 : World} {N0 : Nat → Prop} (b : Frame) (k : List Item) (cs : List Frame) :
    ∀ (rest : List Nat) (Dn : Nat → Bool) (a : Act) (m : Mem), Ord ops (fun s => s < i0 ∨ ∃ t, t < L ∧ s = i0 + t ∧ Dn t = true) rest → Closed ops (fun s => s < i0 ∨ ∃ t, t < L ∧ s = i0 + t ∧ Dn t = true) → MR base w0 N0 m (setsD F Dn L (heapA O F L)) →
      (∀ x, VR m (vA (look e) (dstAt ops i0) (fun s => (F s).d) Dn L x) (a.tmps.getD x undef)) → (∀ t, t < L → Dn t = false → ∀ q, q < (F t).news.length → m.ρ ((heapA O F t).length + q) = none) → nt ≤ a.tmps.size →
      ∃ rest' ra' a' m', Steps C.P (lone (b.at a (.inRegion ops rest :: k)) cs m.w) (lone (b.at ra' (.inRegion ops rest' :: k)) cs m'.w) ∧ (RegR ops (i0 + L) rest' ∧ VirtR ops (i0 + L) rest' ra' a') ∧ MR base w0 N0 m' (setsD F (fun _ => true) L (heapA O F L)) ∧ Ext m m' ∧
        ER m' (envA ops i0 e F L) a' ∧ a'.tmps.size = a.tmps.size ∧ a'.defers = a.defers := by
  intro rest
  induction rest with
  | nil =>
    intro Dn a m hord hcl hm hv hfree hn
    have hd : ∀ t, t < L → Dn t = true := by
      intro t ht
      obtain ⟨o, ho, _⟩ := hall t ht
      have hlt : i0 + t < ops.size := (Array.getElem?_eq_some_iff.1 ho).1
      rcases hord _ hlt with q | ⟨t', h1, h2, h3⟩
      · omega
      · have : t = t' := by omega
        rw [this]; exact h3
    have hset : setsD F Dn L (heapA O F L) = setsD F (fun _ => true) L (heapA O F L) := setsD_congr fun t ht _ => hd t ht
    rw [hset] at hm
    refine ⟨[], a, a, m, .refl _ _, ⟨RegR.plain (regOk_back hok) ?_, VirtR.refl (by simp) a⟩, hm, Ext.refl m, fun x => ?_, rfl, rfl⟩
    · intro j hj
      rcases hord j hj with q | ⟨t', h1, h2, h3⟩ <;> omega
    · rw [look_envA]
      have := hv x
      rwa [vA_congr (Dn' := fun _ => true) (fun s hs _ => hd s hs)] at this
  | cons i r ih =>
    intro Dn a m hord hcl hm hv hfree hn
    by_cases hdone : ∀ t, t < L → Dn t = true
    · have hord2 : Ord ops (fun s => s < i0 + L) (i :: r) := by
        refine Ord.congr (fun j => ?_) hord
        constructor
        · rintro (q | ⟨t, h1, h2, h3⟩) <;> omega
        · intro q
          by_cases h : j < i0
          · exact .inl h
          · exact .inr ⟨j - i0, by omega, by omega, hdone _ (by omega)⟩
      have hset : setsD F Dn L (heapA O F L) = setsD F (fun _ => true) L (heapA O F L) := setsD_congr fun t ht _ => hdone t ht
      rw [hset] at hm
      refine ⟨i :: r, a, a, m, .refl _ _, ⟨RegR.plain (regOk_back hok) hord2, VirtR.refl (fun q hq => Ord.not_mem hord2 q hq) a⟩, hm, Ext.refl m, fun x => ?_, rfl, rfl⟩
      · rw [look_envA]
        have := hv x
        rwa [vA_congr (Dn' := fun _ => true) (fun s hs _ => hdone s hs)] at this
    · obtain ⟨t0, ht0, hd0⟩ : ∃ t0, t0 < L ∧ Dn t0 = false := by
        have := Classical.not_forall.1 hdone
        obtain ⟨t0, h⟩ := this
        have := Classical.not_imp.1 h
        exact ⟨t0, this.1, by simpa using this.2⟩
      have hord0 := hord
      obtain ⟨hi, hni, hnext, hord'⟩ := hord
      have hnot0 : ¬ (i0 + t0 < i0 ∨ ∃ t, t < L ∧ i0 + t0 = i0 + t ∧ Dn t = true) := by
        rintro (q | ⟨t, h1, h2, h3⟩)
        · omega
        · have : t0 = t := by omega
          subst this
          rw [hd0] at h3; simp at h3
      by_cases hstop : ∃ t, t < L ∧ i = i0 + t
      case neg =>
        -- the next one is behind the stretch: what is left of it are plain moves
        have hge : ¬ i < i0 + L := fun hlt => hstop ⟨i - i0, by
          have : ¬ i < i0 := fun q => hni (.inl q)
          omega, by
          have : ¬ i < i0 := fun q => hni (.inl q)
          omega⟩
        have hfix := hseg.resolve_left (by omega)
        have hq := fixed_quasi hfix (by omega)
        have hiL : i = i0 + L := by
          by_cases e2 : i = i0 + L
          · exact e2
          · rcases ahead_next hcl (by omega) hnext (quasi_hi hq (by omega) hi) with q | ⟨t, h1, h2, h3⟩ <;> omega
        have hund : ∀ t, t < L → Dn t = false → ¬ (i0 + t < i0 ∨ ∃ t', t' < L ∧ i0 + t = i0 + t' ∧ Dn t' = true) := by
          rintro t ht hd (q | ⟨t', h1, h2, h3⟩)
          · omega
          · have : t = t' := by omega
            subst this
            rw [hd] at h3; simp at h3
        have hfl : ∀ t, t < L → Dn t = false → floatOp ops (i0 + t) = true := by
          intro t ht hd
          rcases quasi_lo hq (by omega : i0 + t < i0 + L) with h | h
          · exact (hund t ht hd (ahead_next hcl (by omega) hnext (by rw [hiL]; exact h))).elim
          · exact h
        have htail : tailQ ops (i0 + L) = true := by
          simp only [fixed, Bool.or_eq_true] at hfix
          rcases hfix with h | h
          · exact (hnot0 (ahead_next hcl (by omega) hnext (by rw [hiL]; exact pinned_lo h (by omega)))).elim
          · exact h
        obtain ⟨va, m', g1, g2, g3, g4, g5, g6, g7, g8, g9⟩ := vflush hok hall hdist hhot hlo a hcl hm hv hfree hn hfl L (Nat.le_refl _)
        have hset : setsD F Dn L (heapA O F L) = setsD F (fun _ => true) L (heapA O F L) := setsD_congr fun t ht hst => by
          cases hd : Dn t with
          | true => rfl
          | false =>
            obtain ⟨o, x, d, ho, hx, hod, hguard, _, huniq⟩ := float_get (hfl t ht hd)
            obtain ⟨o', ho', _, hwant, _, hgo, hskip⟩ := hall t ht
            rw [ho] at ho'
            simp at ho'
            subst ho'
            have hg : (F t).go = true := by unfold WantD at hwant; rw [hguard] at hwant; exact hwant
            rcases hgo hg with ⟨h, _⟩ | ⟨T0, a0, x0, _, _, _, _, h, _⟩
            · exact (hst h).elim
            · rw [h] at hx; simp [fsrc] at hx
        rw [hset] at g3
        have hS : ∀ j, (j < i0 ∨ ∃ t, t < L ∧ j = i0 + t ∧ Dn t = true) ↔ j < i0 + L ∧ j ∉ i :: r := by
          intro j
          constructor
          · intro hj
            refine ⟨?_, fun hm => Ord.not_mem hord0 j hm hj⟩
            rcases hj with q | ⟨t, h1, h2, h3⟩ <;> omega
          · rintro ⟨h1, h2⟩
            cases Classical.em (j < i0 ∨ ∃ t, t < L ∧ j = i0 + t ∧ Dn t = true) with
            | inl h => exact h
            | inr h => exact (h2 (Ord.mem hord0 j (by omega) h)).elim
        have hpend : ∀ q ∈ i :: r, q < i0 + L → ∃ t, t < L ∧ q = i0 + t ∧ Dn t = false := by
          intro q hq hlt
          have hnS := Ord.not_mem hord0 q hq
          have hge0 : ¬ q < i0 := fun h => hnS (.inl h)
          refine ⟨q - i0, by omega, by omega, ?_⟩
          cases hdq : Dn (q - i0) with
          | false => rfl
          | true => exact (hnS (.inr ⟨q - i0, by omega, by omega, hdq⟩)).elim
        refine ⟨i :: r, a, va, m', by rw [g1]; exact .refl _ _, ⟨⟨Ord.congr hS hord0, ?_, fun q hq hlt => ?_⟩, ⟨g4.symm, g5.symm, fun q hq hlt o d x ho hd hx => ?_, fun t ht => ?_⟩⟩, g3, g2, fun x => ?_, g4, g5⟩
        · intro j o e ho hj he hb
          exact (hS _).1 (hcl j o e ho ((hS j).2 hj) he hb)
        · obtain ⟨t, h1, rfl, h3⟩ := hpend q hq hlt
          exact ⟨hfl t h1 h3, htail⟩
        · obtain ⟨t, h1, rfl, h3⟩ := hpend q hq hlt
          exact g8 t h1 h3 o d x ho hd hx
        · refine g9 t fun s hs hds hdst => ?_
          obtain ⟨o', ho', _⟩ := hall s hs
          refine ht (i0 + s) ?_ (by omega) o' ho' (by simpa [dstAt, ho'] using hdst)
          have hlt : i0 + s < ops.size := (Array.getElem?_eq_some_iff.1 ho').1
          exact Ord.mem hord0 _ hlt (hund s hs hds)
        · rw [look_envA]
          have := g6 x
          rwa [vA_congr (Dn' := fun _ => true) (fun s hs _ => by
            have : Nat.blt s L = true := by rw [Nat.blt_eq]; exact hs
            simp [this])] at this
      obtain ⟨t, ht, rfl⟩ := hstop
      have hdt : Dn t = false := by
        cases h : Dn t
        · rfl
        · exact (hni (.inr ⟨t, ht, rfl, h⟩)).elim
      obtain ⟨o, ho, hdst, hwant, hnd, hgo, hskip⟩ := hall t ht
      have hopd : ∀ x ∈ tmpsOf o ops, VR m (look (envA ops i0 e F t) x) (a.tmps.getD x undef) := by
        intro x hx
        have := hv x
        rwa [vA_congr (Dn' := fun s => Nat.blt s t) ?_, vA_stop (by omega), ← look_envA] at this
        intro s hs hds
        obtain ⟨o', ho', _⟩ := hall s hs
        have hds : o'.dst = some x := by simpa [dstAt, ho'] using hds
        rcases Nat.lt_trichotomy s t with q | q | q
        · have hb : Nat.blt s t = true := by rw [Nat.blt_eq]; exact q
          rw [hb]
          rcases regOk_disj hok (by omega : i0 + s < i0 + t) ho' ho with h | h
          · rcases ahead_next hcl (by omega) hnext h with h | ⟨t', h1, h2, h3⟩
            · omega
            · have : s = t' := by omega
              rw [this]; exact h3
          · simp only [disj, hds, Bool.and_eq_true] at h
            have := h.1.1
            simp at this
            exact (this hx).elim
        · subst q
          have hb : Nat.blt s s = false := by
            cases hb : Nat.blt s s
            · rfl
            · rw [Nat.blt_eq] at hb; omega
          rw [hb]; exact hdt
        · have hb : Nat.blt s t = false := by
            cases hb : Nat.blt s t
            · rfl
            · rw [Nat.blt_eq] at hb; omega
          rw [hb]
          cases hds' : Dn s
          · rfl
          · rcases regOk_disj hok (by omega : i0 + t < i0 + s) ho ho' with h | h
            · rcases ahead_spec hcl h (.inr ⟨s, hs, rfl, hds'⟩) with h | ⟨t', h1, h2, h3⟩
              · omega
              · have : t = t' := by omega
                rw [this] at hdt; rw [hdt] at h3; simp at h3
            · simp only [disj, hds, Bool.and_eq_true] at h
              have := h.2
              simp at this
              exact (this hx).elim
      have hw := wanted_of hwant hopd
      have hdstt : dstAt ops i0 t = o.dst := by simp [dstAt, ho]
      -- what comes after
      have next : ∀ (v : Value) (m' : Mem), Ext m m' → MR base w0 N0 m' (setsD F (fun s => Dn s || Nat.beq s t) L (heapA O F L)) → VR m' (F t).d v → (∀ n h, m'.ρ n = some h → m.ρ n = some h ∨ ∃ q, q < (F t).news.length ∧ n = (heapA O F t).length + q) →
          Steps C.P (lone (b.at a (.inRegion ops ((i0 + t) :: r) :: k)) cs m.w) (lone (b.at (a.put o.dst v) (.inRegion ops r :: k)) cs m'.w) →
          ∃ rest' ra' a' m', Steps C.P (lone (b.at a (.inRegion ops ((i0 + t) :: r) :: k)) cs m.w) (lone (b.at ra' (.inRegion ops rest' :: k)) cs m'.w) ∧ (RegR ops (i0 + L) rest' ∧ VirtR ops (i0 + L) rest' ra' a') ∧ MR base w0 N0 m' (setsD F (fun _ => true) L (heapA O F L)) ∧ Ext m m' ∧
            ER m' (envA ops i0 e F L) a' ∧ a'.tmps.size = a.tmps.size ∧ a'.defers = a.defers := by
        intro v m' he hm' hvr hnames hst
        have hset : ∀ j, (j < i0 ∨ ∃ t', t' < L ∧ j = i0 + t' ∧ Dn t' = true) ∨ j = i0 + t ↔ (j < i0 ∨ ∃ t', t' < L ∧ j = i0 + t' ∧ (Dn t' || Nat.beq t' t) = true) := by
          intro j
          constructor
          · rintro ((q | ⟨t', h1, h2, h3⟩) | q)
            · exact .inl q
            · exact .inr ⟨t', h1, h2, by simp [h3]⟩
            · exact .inr ⟨t, ht, q, by simp [Nat.beq_refl]⟩
          · rintro (q | ⟨t', h1, h2, h3⟩)
            · exact .inl (.inl q)
            · simp only [Bool.or_eq_true] at h3
              rcases h3 with h3 | h3
              · exact .inl (.inr ⟨t', h1, h2, h3⟩)
              · have := Nat.eq_of_beq_eq_true h3
                subst this
                exact .inr h2
        obtain ⟨rest', ra', a', m'', s1, s2, s3, s4, s5, s6, s7⟩ := ih (fun s => Dn s || Nat.beq s t) (a.put o.dst v) m' (Ord.congr hset hord')
          (by
            intro j o' e' ho' hj he' hbi
            exact (hset _).1 (hcl.add hnext j o' e' ho' ((hset j).2 hj) he' hbi)) hm'
          (by
            intro x
            rw [vA_put ht hdt, hdstt, put_getD hdst hn]
            · by_cases hx : o.dst = some x
              · rw [if_pos hx, if_pos hx]; exact hvr
              · rw [if_neg hx, if_neg hx]; exact VR.keep he _ _ (hv x)
            · intro s h1 h2 h3 h4 h5
              obtain ⟨o', ho', _⟩ := hall s h2
              have h4 : o'.dst = some x := by simpa [dstAt, ho'] using h4
              have h5 : o.dst = some x := by rw [← hdstt]; exact h5
              rcases regOk_disj hok (by omega : i0 + t < i0 + s) ho ho' with h | h
              · rcases ahead_spec hcl h (.inr ⟨s, h2, rfl, h3⟩) with h | ⟨t', g1, g2, g3⟩
                · omega
                · have : t = t' := by omega
                  rw [this] at hdt; rw [hdt] at g3; simp at g3
              · simp only [disj, h5, h4, Bool.and_eq_true] at h
                have := h.1.2
                simp at this)
          (by
            intro s hs hds q hq
            simp only [Bool.or_eq_false_iff] at hds
            have hst : s ≠ t := by
              rintro rfl
              rw [Nat.beq_refl] at hds
              simp at hds
            cases hr : m'.ρ ((heapA O F s).length + q) with
            | none => rfl
            | some h =>
              rcases hnames _ _ hr with g | ⟨q', g1, g2⟩
              · rw [hfree s hs hds.1 q hq] at g; simp at g
              · rcases Nat.lt_or_gt_of_ne hst with g | g
                · have := heapA_len (O := O) (F := F) g; omega
                · have := heapA_len (O := O) (F := F) g; omega)
          (by rw [put_size]; exact hn)
        exact ⟨rest', ra', a', m'', hst.trans s1, s2, s3, he.trans s4, s5, by rw [s6, put_size], by rw [s7, put_defers']⟩
      have stay : (F t).st = none → setsD F (fun s => Dn s || Nat.beq s t) L (heapA O F L) = setsD F Dn L (heapA O F L) := fun hst => setsD_congr fun s hs hne => by
        have : s ≠ t := by rintro rfl; exact hne hst
        have : Nat.beq s t = false := by
          cases hb : Nat.beq s t
          · rfl
          · exact (this (Nat.eq_of_beq_eq_true hb)).elim
        simp [this]
      cases hg : (F t).go with
      | true =>
        rw [hg] at hw
        rcases hgo hg with ⟨hst0, hop0⟩ | ⟨T, ad, x, n, off, T', old, s1, s2, s3, s4, s5, s6, s7, s8, s9, s10, s11, s12⟩
        · have hop := hop0 base w0 N0 m (setsD F Dn L (heapA O F L)) a hm (opds_of hopd) (sub_sets (by omega) hhot) (fun q B hB => new_sets (hot := hot) ht hlo hB) (fun q hq => hfree t ht hdt q hq)
            (fun a' w' => ∃ v m', a' = a.put o.dst v ∧ m'.w = w' ∧ Ext m m' ∧ MR base w0 N0 m' (setsD F Dn L (heapA O F L)) ∧ VR m' (F t).d v ∧ (∀ n h, m'.ρ n = some h → m.ρ n = some h ∨ ∃ q, q < (F t).news.length ∧ n = (heapA O F t).length + q))
            (fun v m' h1 h2 h3 h4 _ => ⟨v, m', rfl, rfl, h1, h2, h3, h4⟩)
          obtain ⟨a', w', ⟨v, m', rfl, rfl, h1, h2, h3, h4⟩, hst⟩ := op_steps hop ho hw b k cs r
          exact next v m' h1 (by rw [stay hst0]; exact h2) h3 h4 hst
        · have hget : (setsD F Dn L (heapA O F L))[n]? = some (.cells T' old) := by
            rw [setsD_out (fun s n' B' hs hst hds e => ?_)]
            · exact heapA_old (by omega) s5
            · subst e
              have := hdist s t n' B' _ hs ht hst s10
              subst this
              rw [hdt] at hds; simp at hds
          have hva : VR m (.ptr n off) (a.eval ad) := by
            have := opds_of hopd ad (by simp [s1, Op.operands])
            rwa [s3] at this
          have hvx := opds_of hopd x (by simp [s1, Op.operands])
          obtain ⟨w', r1, r2, r3, _⟩ := store_rel (P := C.P) (T := T) (O' := (setsD F Dn L (heapA O F L)).set n (.cells T' (putAt old off (cellsOf (opd (envA ops i0 e F t) x))))) hm hva hvx s7 s8 s9 (by
            simp only [storeD, hget]
            have : Nat.ble (off + (cellsOf (opd (envA ops i0 e F t) x)).length) old.length = true := by rw [Nat.ble_eq]; exact s6
            rw [this]; rfl)
          have hrun : (execOp a.eval o).run C.P m.w = .ok .skip w' := by
            simp only [execOp, s1, Sem.run_bind, r1, Result.andThen_ok, Sem.run_pure]
          have hwp : o.wp C.P a m.w (fun a' w'' => a' = a.put o.dst undef ∧ w'' = w') No := by
            unfold Oper.wp Oper.upon
            rw [hrun]
            exact ⟨rfl, rfl⟩
          obtain ⟨a', w'', ⟨rfl, rfl⟩, hst⟩ := op_steps hwp ho hw b k cs r
          exact next undef { m with w := w'' } r2 (by rw [setsD_put hdist ht s10 hdt]; exact r3) (by rw [s11]; simp only [VR]) (fun n h hh => .inl hh) hst
      | false =>
        rw [hg] at hw
        obtain ⟨e1, e2, e3⟩ := hskip hg
        have hs := step_op_skip (P := C.P) (b := b) (a := a) (k := k) (cs := cs) (w := m.w) (ops := ops) (i := i0 + t) (rest := r) (by simp [ho, hw])
        rw [ho] at hs
        exact next undef m (Ext.refl m) (by rw [stay e3]; exact hm) (by rw [e1]; simp only [VR]) (fun n h hh => .inl hh) (.one hs)
end Go.AM
