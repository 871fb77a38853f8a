/- DERIVED. NO CLAIM IN IT. A stretch of a region, done in any order that is allowed. -/
import Derived.Test.YtigfnidgpmfneaaAmSim1
import Derived.Test.YtigfnidgpmfneaaAmW3
set_option linter.unusedVariables false
set_option linter.unusedSimpArgs false
namespace Go.AM

theorem op_steps {P : Program} {o : Oper} {a : Act} {w : World} {X : Act → World → Prop} (h : o.wp P a w X No) {ops : Array Oper} {i : Nat} (ho : ops[i]? = some o) (hw : Region.wanted o (yielded ops a.tmps) = true)
    (b : Frame) (k : List Item) (cs : List Frame) (rest : List Nat) :
    ∃ a' w', X a' w' ∧ Steps P (lone (b.at a (.inRegion ops (i :: rest) :: k)) cs w) (lone (b.at a' (.inRegion ops rest :: k)) cs w') := by
  simp only [Oper.wp, Oper.upon] at h
  have hg := stepG_op (P := P) (b := b) (k := k) (cs := cs) (w := w) (rest := rest) ho hw
  have hfin : ∀ v, (b.at a (.inRegion ops (i :: rest) :: k)).finish v = b.at (a.put o.dst v) (.inRegion ops rest :: k) := by
    intro v; rw [Frame.finish_at, ho]; rfl
  split at h
  · rename_i v w' hr
    refine ⟨_, _, h, .one (step_lone_go ?_)⟩
    rw [hg, ← hfin]; simp [stepG.apply, hr]
  · rename_i w' hr
    refine ⟨_, _, h, .one (step_lone_go ?_)⟩
    rw [hg, ← hfin]; simp [stepG.apply, hr]
  · rename_i d w' hr
    refine ⟨_, _, h, .one (step_lone_go ?_)⟩
    have : ({ b.at a (.inRegion ops (i :: rest) :: k) with defers := d :: a.defers } : Frame).finish undef =
        b.at ({ a with defers := d :: a.defers }.put o.dst undef) (.inRegion ops rest :: k) := by
      have := Frame.finish_at b { a with defers := d :: a.defers } ops i rest k undef
      rw [ho] at this; exact this
    rw [hg]; simp only [stepG.apply, Sem.runT_eq, hr, GStep.bare_after]
    exact congrArg (fun fr => GStep.go { frame := fr, callers := cs, status := .running, dying := none } w') this
  · rename_i f args w' hr
    obtain ⟨e, w'', fr, hR, hsteps, _, hleave⟩ := h (b.at a (.inRegion ops (i :: rest) :: k) :: cs)
    have henter : step P (lone (b.at a (.inRegion ops (i :: rest) :: k)) cs w) =
        .next (lone (Frame.enter P f args .normal) (b.at a (.inRegion ops (i :: rest) :: k) :: cs) w') :=
      step_lone_go (by rw [hg]; simp [stepG.apply, hr, Frame.at])
    cases e with
    | returned v =>
      refine ⟨_, _, hR, .head henter (Steps.trans hsteps (.one ?_))⟩
      rw [← hfin]; exact step_leave_returned hleave
    | panicked chain => exact hR.elim
    | outgrown =>
      obtain ⟨_, _, hq⟩ := hR
      exact hq.elim
  · rename_i row args w' hr
    obtain ⟨v, w'', hR, hsteps⟩ := h (b.at a (.inRegion ops (i :: rest) :: k)) cs
    have henter : step P (lone (b.at a (.inRegion ops (i :: rest) :: k)) cs w) =
        .next (lone (Frame.ofRow P row args .normal) (b.at a (.inRegion ops (i :: rest) :: k) :: cs) w') :=
      step_lone_go (by rw [hg]; simp [stepG.apply, hr, Frame.at])
    refine ⟨_, _, hR, .head henter ?_⟩
    rw [← hfin]; exact hsteps
  · exact h.elim
  · exact h.elim

/-! ### Values, where some of the operations have been done -/
def vA (V0 : Nat → DV) (dst : Nat → Option Nat) (D : Nat → DV) (Dn : Nat → Bool) : Nat → Nat → DV
  | 0, x => V0 x
  | j + 1, x => if Dn j = true ∧ dst j = some x then D j else vA V0 dst D Dn j x

theorem vA_congr {V0 : Nat → DV} {dst : Nat → Option Nat} {D : Nat → DV} {Dn Dn' : Nat → Bool} {x : Nat} : ∀ {j : Nat}, (∀ s, s < j → dst s = some x → Dn s = Dn' s) → vA V0 dst D Dn j x = vA V0 dst D Dn' j x
  | 0, _ => rfl
  | j + 1, h => by
    have ih := vA_congr (V0 := V0) (D := D) (j := j) (fun s hs => h s (by omega))
    simp only [vA, ih]
    by_cases e : dst j = some x
    · rw [h j (by omega) e]
    · simp [e]

theorem vA_put {V0 : Nat → DV} {dst : Nat → Option Nat} {D : Nat → DV} {Dn : Nat → Bool} {x t : Nat} : ∀ {j : Nat}, t < j → Dn t = false → (∀ s, t < s → s < j → Dn s = true → dst s = some x → dst t = some x → False) →
    vA V0 dst D (fun s => Dn s || Nat.beq s t) j x = if dst t = some x then D t else vA V0 dst D Dn j x
  | 0, h, _, _ => by omega
  | j + 1, h, hf, hn => by
    by_cases e : t = j
    · subst e
      have hc : vA V0 dst D (fun s => Dn s || Nat.beq s t) t x = vA V0 dst D Dn t x := vA_congr fun s hs _ => by
        have : Nat.beq s t = false := by
          cases hb : Nat.beq s t
          · rfl
          · have := Nat.eq_of_beq_eq_true hb; omega
        simp [this]
      simp only [vA, hc, hf, Nat.beq_refl, Bool.or_true, true_and, Bool.false_eq_true, false_and, if_false]
    · have hb : Nat.beq j t = false := by
        cases hb : Nat.beq j t
        · rfl
        · have := Nat.eq_of_beq_eq_true hb; omega
      have ih := vA_put (V0 := V0) (D := D) (x := x) (j := j) (by omega) hf (fun s h1 h2 => hn s h1 (by omega))
      simp only [vA, ih, hb, Bool.or_false]
      by_cases hd : dst t = some x
      · by_cases h1 : Dn j = true ∧ dst j = some x
        · exact (hn j (by omega) (by omega) h1.1 h1.2 hd).elim
        · simp only [hd, if_true]
          rw [if_neg h1]
      · simp only [hd, if_false]

theorem vA_stop {V0 : Nat → DV} {dst : Nat → Option Nat} {D : Nat → DV} {t x : Nat} : ∀ {j : Nat}, t ≤ j → vA V0 dst D (fun s => Nat.blt s t) j x = vA V0 dst D (fun _ => true) t x
  | 0, h => by
    have : t = 0 := by omega
    subst this; rfl
  | j + 1, h => by
    by_cases e : t = j + 1
    · subst e
      exact vA_congr fun s hs _ => by simp [Nat.blt_eq, hs]
    · have hb : Nat.blt j t = false := by
        cases hb : Nat.blt j t
        · rfl
        · rw [Nat.blt_eq] at hb; omega
      simp only [vA, hb, Bool.false_eq_true, false_and, if_false]
      exact vA_stop (by omega)

/-- What is planned for an operation. -/
structure Pl where
  d : DV
  news : List Blk
  go : Bool

def dstAt (ops : Array Oper) (i0 t : Nat) : Option Nat := (ops[i0 + t]?).bind (·.dst)

def envA (ops : Array Oper) (i0 : Nat) (e : Env) (F : Nat → Pl) : Nat → Env
  | 0 => e
  | t + 1 => putD (dstAt ops i0 t) (F t).d (envA ops i0 e F t)

def heapA (O : Heap) (F : Nat → Pl) : Nat → Heap
  | 0 => O
  | t + 1 => heapA O F t ++ (F t).news

def WantD (ops : Array Oper) (e : Env) (o : Oper) (go : Bool) : Prop :=
  match o.guard with
  | none => go = true
  | some (j, want) => ∃ t, (ops[j]?).bind (·.dst) = some t ∧ ((∃ v, look e t = .dat .bool v ∧ go = ((v : Bool) == want)) ∨ ∃ vs, look e t = .raw (.tuple vs) ∧ go = false)

def StepOK (C : Ctx) (ops : Array Oper) (nt j : Nat) (e : Env) (O : Heap) (p : Pl) : Prop :=
  ∃ o, ops[j]? = some o ∧ dstOk o.dst nt = true ∧ WantD ops e o p.go ∧ (∀ B ∈ p.news, B ≠ Blk.dead) ∧
    (p.go = true → OpOK C o e O O.length p.d p.news) ∧ (p.go = false → p.d = .raw undef ∧ p.news = [])

theorem look_putD (dst : Option Nat) (d : DV) (e : Env) (x : Nat) : look (putD dst d e) x = if dst = some x then d else look e x := by
  cases dst with
  | none => simp [putD]
  | some k => simp only [putD, look_cons, Option.some.injEq]

theorem look_envA (ops : Array Oper) (i0 : Nat) (e : Env) (F : Nat → Pl) : ∀ t x, look (envA ops i0 e F t) x = vA (look e) (dstAt ops i0) (fun s => (F s).d) (fun _ => true) t x
  | 0, x => rfl
  | t + 1, x => by simp only [envA, look_putD, vA, look_envA ops i0 e F t x, true_and]

theorem heapA_pre (O : Heap) (F : Nat → Pl) {t : Nat} : ∀ {s : Nat}, t ≤ s → ∃ r, heapA O F s = heapA O F t ++ r
  | 0, h => ⟨[], by have : t = 0 := by omega
                    subst this; simp⟩
  | s + 1, h => by
    by_cases e : t = s + 1
    · subst e; exact ⟨[], by simp⟩
    · obtain ⟨r, hr⟩ := heapA_pre O F (t := t) (s := s) (by omega)
      exact ⟨r ++ (F s).news, by simp [heapA, hr]⟩

theorem heapA_old {O : Heap} {F : Nat → Pl} {t s : Nat} (h : t ≤ s) {n : Nat} {B : Blk} (hb : (heapA O F t)[n]? = some B) : (heapA O F s)[n]? = some B := by
  obtain ⟨r, hr⟩ := heapA_pre O F h
  rw [hr, List.getElem?_append_left (List.getElem?_eq_some_iff.1 hb).1]
  exact hb

theorem heapA_new {O : Heap} {F : Nat → Pl} {t s : Nat} (h : t < s) {k : Nat} {B : Blk} (hb : (F t).news[k]? = some B) : (heapA O F s)[(heapA O F t).length + k]? = some B := by
  refine heapA_old (t := t + 1) (by omega) ?_
  simp only [heapA]
  rw [List.getElem?_append_right (by omega)]
  simpa using hb

theorem heapA_len {O : Heap} {F : Nat → Pl} {t s : Nat} (h : t < s) : (heapA O F t).length + (F t).news.length ≤ (heapA O F s).length := by
  obtain ⟨r, hr⟩ := heapA_pre O F (t := t + 1) (s := s) (by omega)
  rw [hr]
  simp [heapA]

theorem Ext.MR_len {base : Nat} {w0 : World} {N0 : Nat → Prop} {m : Mem} {O : Heap} (h : MR base w0 N0 m O) {n : Nat} {v : Value} (hr : m.ρ n = some v) : n < O.length := by
  obtain ⟨B, h1, _⟩ := h.blk n v hr
  exact (List.getElem?_eq_some_iff.1 h1).1

theorem bool_get {m : Mem} {t : Nat} {v : Bool} {a : Act} (h : VR m (.dat .bool v) (a.tmps.getD t undef)) : a.tmps[t]? = some (.bool v) := by
  have := of_bool h
  rw [Array.getD_eq_getD_getElem?] at this
  cases ht : a.tmps[t]? with
  | none => rw [ht] at this; simp [undef] at this
  | some u => rw [ht] at this; simpa using this

theorem wanted_of {ops : Array Oper} {e : Env} {o : Oper} {go : Bool} (h : WantD ops e o go) {a : Act} {m : Mem} (hv : ∀ t ∈ tmpsOf o ops, VR m (look e t) (a.tmps.getD t undef)) : Region.wanted o (yielded ops a.tmps) = go := by
  unfold WantD at h
  unfold Region.wanted
  split at h
  · rename_i hg; simp [hg, h]
  · rename_i j want hg
    obtain ⟨t, h1, h⟩ := h
    have := hv t (by simp [tmpsOf, hg, h1])
    rcases h with ⟨v, h2, h3⟩ | ⟨vs, h2, h3⟩
    · rw [h2] at this
      have := bool_get this
      simp [hg, yielded, h1, this, h3]
    · rw [h2] at this
      simp only [VR] at this
      rw [Array.getD_eq_getD_getElem?] at this
      cases ht : a.tmps[t]? with
      | none => simp [hg, yielded, h1, ht, h3]
      | some u =>
        rw [ht] at this
        simp at this
        simp [hg, yielded, h1, ht, this, h3]

theorem opds_of {o : Oper} {ops : Array Oper} {e : Env} {a : Act} {m : Mem} (hv : ∀ t ∈ tmpsOf o ops, VR m (look e t) (a.tmps.getD t undef)) : ∀ x ∈ o.op.operands, VR m (opd e x) (a.eval x) := by
  intro x hx
  cases x with
  | tmp t =>
    refine hv t ?_
    simp only [tmpsOf, List.mem_append, List.mem_filterMap]
    exact .inl ⟨.tmp t, by simpa using hx, rfl⟩
  | const v => exact ofConst_rel m v
  | global g => simp only [opd, VR, Act.eval]
  | func f => simp only [opd, VR, Act.eval]

theorem put_getD {a : Act} {dst : Option Nat} {nt : Nat} (hd : dstOk dst nt = true) (hn : nt ≤ a.tmps.size) (v : Value) (x : Nat) : (a.put dst v).tmps.getD x undef = if dst = some x then v else a.tmps.getD x undef := by
  cases dst with
  | none => simp [Act.put]
  | some k =>
    simp only [dstOk, Nat.blt_eq] at hd
    by_cases e : k = x
    · subst e; simp [Act.put, show k < a.tmps.size by omega]
    · simp [Act.put, Array.getD_eq_getD_getElem?, Array.getElem?_setIfInBounds, e]

theorem put_size (a : Act) (dst : Option Nat) (v : Value) : (a.put dst v).tmps.size = a.tmps.size := by cases dst <;> simp [Act.put]
theorem put_defers' (a : Act) (dst : Option Nat) (v : Value) : (a.put dst v).defers = a.defers := by cases dst <;> simp [Act.put]

theorem flush {C : Ctx} {ops : Array Oper} (hok : regOk ops = true) {nt i0 L : Nat} {e : Env} {O : Heap} {F : Nat → Pl} (hall : ∀ t, t < L → StepOK C ops nt (i0 + t) (envA ops i0 e F t) (heapA O F t) (F t))
    (hseg : ops.size ≤ i0 + L ∨ pinned ops (i0 + L) = true) {base : Nat} {w0 : World} {N0 : Nat → Prop} (b : Frame) (k : List Item) (cs : List Frame) :
    ∀ (rest : List Nat) (Dn : Nat → Bool) (a : Act) (m : Mem), Ord ops (fun s => s < i0 ∨ ∃ t, t < L ∧ s = i0 + t ∧ Dn t = true) rest → Closed ops (fun s => s < i0 ∨ ∃ t, t < L ∧ s = i0 + t ∧ Dn t = true) → MR base w0 N0 m (heapA O F L) →
      (∀ x, VR m (vA (look e) (dstAt ops i0) (fun s => (F s).d) Dn L x) (a.tmps.getD x undef)) → (∀ t, t < L → Dn t = false → ∀ q, q < (F t).news.length → m.ρ ((heapA O F t).length + q) = none) → nt ≤ a.tmps.size →
      ∃ rest' a' m', Steps C.P (lone (b.at a (.inRegion ops rest :: k)) cs m.w) (lone (b.at a' (.inRegion ops rest' :: k)) cs m'.w) ∧ Ord ops (fun s => s < i0 + L) rest' ∧ MR base w0 N0 m' (heapA O F L) ∧ Ext m m' ∧
        ER m' (envA ops i0 e F L) a' ∧ a'.tmps.size = a.tmps.size ∧ a'.defers = a.defers := by
  intro rest
  induction rest with
  | nil =>
    intro Dn a m hord hcl hm hv hfree hn
    have hd : ∀ t, t < L → Dn t = true := by
      intro t ht
      obtain ⟨o, ho, _⟩ := hall t ht
      have hlt : i0 + t < ops.size := (Array.getElem?_eq_some_iff.1 ho).1
      rcases hord _ hlt with q | ⟨t', h1, h2, h3⟩
      · omega
      · have : t = t' := by omega
        rw [this]; exact h3
    refine ⟨[], a, m, .refl _ _, ?_, hm, Ext.refl m, fun x => ?_, rfl, rfl⟩
    · intro j hj
      rcases hord j hj with q | ⟨t', h1, h2, h3⟩ <;> omega
    · rw [look_envA]
      have := hv x
      rwa [vA_congr (Dn' := fun _ => true) (fun s hs _ => hd s hs)] at this
  | cons i r ih =>
    intro Dn a m hord hcl hm hv hfree hn
    by_cases hdone : ∀ t, t < L → Dn t = true
    · refine ⟨i :: r, a, m, .refl _ _, Ord.congr (fun j => ?_) hord, hm, Ext.refl m, fun x => ?_, rfl, rfl⟩
      · constructor
        · rintro (q | ⟨t, h1, h2, h3⟩) <;> omega
        · intro q
          by_cases h : j < i0
          · exact .inl h
          · exact .inr ⟨j - i0, by omega, by omega, hdone _ (by omega)⟩
      · rw [look_envA]
        have := hv x
        rwa [vA_congr (Dn' := fun _ => true) (fun s hs _ => hdone s hs)] at this
    · obtain ⟨t0, ht0, hd0⟩ : ∃ t0, t0 < L ∧ Dn t0 = false := by
        have := Classical.not_forall.1 hdone
        obtain ⟨t0, h⟩ := this
        have := Classical.not_imp.1 h
        exact ⟨t0, this.1, by simpa using this.2⟩
      obtain ⟨hi, hni, hnext, hord'⟩ := hord
      have hnot0 : ¬ (i0 + t0 < i0 ∨ ∃ t, t < L ∧ i0 + t0 = i0 + t ∧ Dn t = true) := by
        rintro (q | ⟨t, h1, h2, h3⟩)
        · omega
        · have : t0 = t := by omega
          subst this
          rw [hd0] at h3; simp at h3
      obtain ⟨t, ht, rfl⟩ : ∃ t, t < L ∧ i = i0 + t := by
        by_cases hlt : i < i0 + L
        · refine ⟨i - i0, ?_, ?_⟩
          · have : ¬ i < i0 := fun q => hni (.inl q)
            omega
          · have : ¬ i < i0 := fun q => hni (.inl q)
            omega
        · have hp := hseg.resolve_left (by omega)
          by_cases e2 : i = i0 + L
          · exact (hnot0 (ahead_next hcl (by omega) hnext (by rw [e2]; exact pinned_lo hp (by omega)))).elim
          · rcases ahead_next hcl (by omega) hnext (pinned_hi hp (by omega) hi) with q | ⟨t, h1, h2, h3⟩ <;> omega
      have hdt : Dn t = false := by
        cases h : Dn t
        · rfl
        · exact (hni (.inr ⟨t, ht, rfl, h⟩)).elim
      obtain ⟨o, ho, hdst, hwant, hnd, hgo, hskip⟩ := hall t ht
      have hopd : ∀ x ∈ tmpsOf o ops, VR m (look (envA ops i0 e F t) x) (a.tmps.getD x undef) := by
        intro x hx
        have := hv x
        rwa [vA_congr (Dn' := fun s => Nat.blt s t) ?_, vA_stop (by omega), ← look_envA] at this
        intro s hs hds
        obtain ⟨o', ho', _⟩ := hall s hs
        have hds : o'.dst = some x := by simpa [dstAt, ho'] using hds
        rcases Nat.lt_trichotomy s t with q | q | q
        · have hb : Nat.blt s t = true := by rw [Nat.blt_eq]; exact q
          rw [hb]
          rcases regOk_disj hok (by omega : i0 + s < i0 + t) ho' ho with h | h
          · rcases ahead_next hcl (by omega) hnext h with h | ⟨t', h1, h2, h3⟩
            · omega
            · have : s = t' := by omega
              rw [this]; exact h3
          · simp only [disj, hds, Bool.and_eq_true] at h
            have := h.1.1
            simp at this
            exact (this hx).elim
        · subst q
          have hb : Nat.blt s s = false := by
            cases hb : Nat.blt s s
            · rfl
            · rw [Nat.blt_eq] at hb; omega
          rw [hb]; exact hdt
        · have hb : Nat.blt s t = false := by
            cases hb : Nat.blt s t
            · rfl
            · rw [Nat.blt_eq] at hb; omega
          rw [hb]
          cases hds' : Dn s
          · rfl
          · rcases regOk_disj hok (by omega : i0 + t < i0 + s) ho ho' with h | h
            · rcases ahead_spec hcl h (.inr ⟨s, hs, rfl, hds'⟩) with h | ⟨t', h1, h2, h3⟩
              · omega
              · have : t = t' := by omega
                rw [this] at hdt; rw [hdt] at h3; simp at h3
            · simp only [disj, hds, Bool.and_eq_true] at h
              have := h.2
              simp at this
              exact (this hx).elim
      have hw := wanted_of hwant hopd
      have hdstt : dstAt ops i0 t = o.dst := by simp [dstAt, ho]
      -- what comes after
      have next : ∀ (v : Value) (m' : Mem), Ext m m' → MR base w0 N0 m' (heapA O F L) → VR m' (F t).d v → (∀ n h, m'.ρ n = some h → m.ρ n = some h ∨ ∃ q, q < (F t).news.length ∧ n = (heapA O F t).length + q) →
          Steps C.P (lone (b.at a (.inRegion ops ((i0 + t) :: r) :: k)) cs m.w) (lone (b.at (a.put o.dst v) (.inRegion ops r :: k)) cs m'.w) →
          ∃ rest' a' m', Steps C.P (lone (b.at a (.inRegion ops ((i0 + t) :: r) :: k)) cs m.w) (lone (b.at a' (.inRegion ops rest' :: k)) cs m'.w) ∧ Ord ops (fun s => s < i0 + L) rest' ∧ MR base w0 N0 m' (heapA O F L) ∧ Ext m m' ∧
            ER m' (envA ops i0 e F L) a' ∧ a'.tmps.size = a.tmps.size ∧ a'.defers = a.defers := by
        intro v m' he hm' hvr hnames hst
        have hset : ∀ j, (j < i0 ∨ ∃ t', t' < L ∧ j = i0 + t' ∧ Dn t' = true) ∨ j = i0 + t ↔ (j < i0 ∨ ∃ t', t' < L ∧ j = i0 + t' ∧ (Dn t' || Nat.beq t' t) = true) := by
          intro j
          constructor
          · rintro ((q | ⟨t', h1, h2, h3⟩) | q)
            · exact .inl q
            · exact .inr ⟨t', h1, h2, by simp [h3]⟩
            · exact .inr ⟨t, ht, q, by simp [Nat.beq_refl]⟩
          · rintro (q | ⟨t', h1, h2, h3⟩)
            · exact .inl (.inl q)
            · simp only [Bool.or_eq_true] at h3
              rcases h3 with h3 | h3
              · exact .inl (.inr ⟨t', h1, h2, h3⟩)
              · have := Nat.eq_of_beq_eq_true h3
                subst this
                exact .inr h2
        obtain ⟨rest', a', m'', s1, s2, s3, s4, s5, s6, s7⟩ := ih (fun s => Dn s || Nat.beq s t) (a.put o.dst v) m' (Ord.congr hset hord')
          (by
            intro j o' e' ho' hj he' hbi
            exact (hset _).1 (hcl.add hnext j o' e' ho' ((hset j).2 hj) he' hbi)) hm'
          (by
            intro x
            rw [vA_put ht hdt, hdstt, put_getD hdst hn]
            · by_cases hx : o.dst = some x
              · rw [if_pos hx, if_pos hx]; exact hvr
              · rw [if_neg hx, if_neg hx]; exact VR.keep he _ _ (hv x)
            · intro s h1 h2 h3 h4 h5
              obtain ⟨o', ho', _⟩ := hall s h2
              have h4 : o'.dst = some x := by simpa [dstAt, ho'] using h4
              have h5 : o.dst = some x := by rw [← hdstt]; exact h5
              rcases regOk_disj hok (by omega : i0 + t < i0 + s) ho ho' with h | h
              · rcases ahead_spec hcl h (.inr ⟨s, h2, rfl, h3⟩) with h | ⟨t', g1, g2, g3⟩
                · omega
                · have : t = t' := by omega
                  rw [this] at hdt; rw [hdt] at g3; simp at g3
              · simp only [disj, h5, h4, Bool.and_eq_true] at h
                have := h.1.2
                simp at this)
          (by
            intro s hs hds q hq
            simp only [Bool.or_eq_false_iff] at hds
            have hst : s ≠ t := by
              rintro rfl
              rw [Nat.beq_refl] at hds
              simp at hds
            cases hr : m'.ρ ((heapA O F s).length + q) with
            | none => rfl
            | some h =>
              rcases hnames _ _ hr with g | ⟨q', g1, g2⟩
              · rw [hfree s hs hds.1 q hq] at g; simp at g
              · rcases Nat.lt_or_gt_of_ne hst with g | g
                · have := heapA_len (O := O) (F := F) g; omega
                · have := heapA_len (O := O) (F := F) g; omega)
          (by rw [put_size]; exact hn)
        exact ⟨rest', a', m'', hst.trans s1, s2, s3, he.trans s4, s5, by rw [s6, put_size], by rw [s7, put_defers']⟩
      cases hg : (F t).go with
      | true =>
        rw [hg] at hw
        have hop := hgo hg base w0 N0 m (heapA O F L) a hm (opds_of hopd) (fun n B hB => heapA_old (by omega) hB) (fun q B hB => heapA_new ht hB) (fun q hq => hfree t ht hdt q hq)
          (fun a' w' => ∃ v m', a' = a.put o.dst v ∧ m'.w = w' ∧ Ext m m' ∧ MR base w0 N0 m' (heapA O F L) ∧ VR m' (F t).d v ∧ (∀ n h, m'.ρ n = some h → m.ρ n = some h ∨ ∃ q, q < (F t).news.length ∧ n = (heapA O F t).length + q))
          (fun v m' h1 h2 h3 h4 _ => ⟨v, m', rfl, rfl, h1, h2, h3, h4⟩)
        obtain ⟨a', w', ⟨v, m', rfl, rfl, h1, h2, h3, h4⟩, hst⟩ := op_steps hop ho hw b k cs r
        exact next v m' h1 h2 h3 h4 hst
      | false =>
        rw [hg] at hw
        obtain ⟨e1, e2⟩ := hskip hg
        have hs := step_op_skip (P := C.P) (b := b) (a := a) (k := k) (cs := cs) (w := m.w) (ops := ops) (i := i0 + t) (rest := r) (by simp [ho, hw])
        rw [ho] at hs
        exact next undef m (Ext.refl m) hm (by rw [e1]; simp only [VR]) (fun n h hh => .inl hh) (.one hs)
end Go.AM
