/- DERIVED. NO CLAIM IN IT. The life of a handle, and the law of lives. -/
import Derived.Test.YteopbgebpgchfaaL09T
set_option linter.unusedVariables false
set_option linter.unusedSimpArgs false
namespace Go.AM.L09
open Go.RowKit Go.Proofs Go.IntWalk

/-- The handle (s, v) is alive in b, or is no more. -/
structure Liv (al : Bool) (b : A) (n s v : Int) : Prop where
  inv : Inv b
  len : (b.1.length : Int) = n
  i : In b s
  life : bif al then veA b s = v ∧ stA b s ≠ 0 ∧ (stA b s = 1 → owA b s = 1) else (veA b s = v ∧ stA b s = 0) ∨ v < veA b s

theorem chk_live {al : Bool} {b : A} {n s v : Int} (h : Liv al b n s v) : (chkF b 1 (s, v, false, false) == 0) = al := by
  have hl := h.life
  cases al with
  | true =>
    simp only [cond_true] at hl
    rw [chk_ok (g := (s, v, false, false)) h.inv h.i (by omega) (by omega) hl.1 hl.2.1 hl.2.2]; rfl
  | false =>
    simp only [cond_false] at hl
    unfold chkF
    rw [h.inv.odd h.i (by omega) (by omega)]
    simp only [cond_false]
    rcases hl with ⟨h1, h2⟩ | h1
    · simp [h1, h2]
    · simp [nT (show veA b s ≠ v by omega)]

theorem Liv.ne {al : Bool} {b : A} {n s v : Int} (h : Liv al b n s v) {k st w o : Int} (hk : In b k) (hs : slotB st w o = true) (hne : k ≠ s) : Liv al (setA b k st w o) n s v := by
  refine ⟨h.inv.set hs, by rw [len_set]; exact h.len, h.i.set, ?_⟩
  have h0 := hk.lo
  have h1 := h.i.lo
  rw [ve_set_ne h0 h1 (Ne.symm hne), st_set_ne h0 h1 (Ne.symm hne), ow_set_ne h0 h1 (Ne.symm hne)]
  exact h.life
theorem Liv.eq {al al' : Bool} {b : A} {n s v : Int} (h : Liv al b n s v) {st w o : Int} (hs : slotB st w o = true)
    (hl : bif al' then w = v ∧ st ≠ 0 ∧ (st = 1 → o = 1) else (w = v ∧ st = 0) ∨ v < w) : Liv al' (setA b s st w o) n s v := by
  refine ⟨h.inv.set hs, by rw [len_set]; exact h.len, h.i.set, ?_⟩
  have q := h.inv.ok h.i
  rw [ve_set q, st_set q, ow_set q]
  exact hl

theorem take_live {al : Bool} {b : A} {n s v k t : Int} (h : Liv al b n s v) (hk : In b k) (h0 : 0 ≤ t) (h1 : t < 64) : Liv al (takeF b t k).1 n s v := by
  rcases take_cases h.inv hk h0 h1 with ⟨_, e⟩ | ⟨_, _, e⟩ | ⟨q, _, hs, e⟩ <;> rw [e]
  · exact h
  · exact h
  · by_cases hne : k = s
    · subst hne
      refine h.eq hs ?_
      have hl := h.life
      cases al with
      | true => exact (hl.2.1 q).elim
      | false =>
        simp only [cond_false] at hl ⊢
        omega
    · exact h.ne hk hs hne
theorem pub_live {al : Bool} {b : A} {n s v k t : Int} {g : H} (h : Liv al b n s v) (hk : In b k) (h0 : 0 ≤ t) (h1 : t < 64) (e1 : g.1 = k) (e2 : g.2.1 = veA b k) : Liv al (pubF b t g).1 n s v := by
  have hv := ver_le h.inv hk
  rcases pub_cases h.inv hk h0 h1 e1 e2 with ⟨q, _, e⟩ | ⟨_, e', _, e⟩ <;> rw [e]
  · by_cases hne : k = s
    · subst hne
      refine h.eq (slot_rest hv.1 hv.2 (by omega)) ?_
      have hl := h.life
      cases al with
      | true => simp only [cond_true] at hl ⊢; omega
      | false => simp only [cond_false] at hl ⊢; omega
    · exact h.ne hk (slot_rest hv.1 hv.2 (by omega)) hne
  · exact h
theorem ret_live {al : Bool} {b : A} {n s v k : Int} {g : H} (h : Liv al b n s v) (hk : In b k) (e1 : g.1 = k) (e2 : g.2.1 = veA b k) : Liv al (retF b g).1 n s v := by
  have hv := ver_le h.inv hk
  rcases ret_cases h.inv hk e1 e2 with ⟨q, e⟩ | ⟨_, e⟩ <;> rw [e]
  · by_cases hne : k = s
    · subst hne
      refine h.eq (slot_rest hv.1 hv.2 (by omega)) ?_
      have hl := h.life
      cases al with
      | true => simp only [cond_true] at hl ⊢; omega
      | false => simp only [cond_false] at hl ⊢; omega
    · exact h.ne hk (slot_rest hv.1 hv.2 (by omega)) hne
  · exact h
theorem back_live {al : Bool} {b : A} {n s v k : Int} {g : H} (h : Liv al b n s v) (hk : In b k) (e1 : g.1 = k) (e2 : g.2.1 = veA b k) :
    ((backF b g).2 = 0 → k = s → veA b k = v → Liv false (backF b g).1 n s v) ∧ (¬ ((backF b g).2 = 0 ∧ k = s ∧ veA b k = v) → Liv al (backF b g).1 n s v) := by
  have hv := ver_le h.inv hk
  have hsl := slot_rest (s := 0) hv.1 hv.2 (by omega)
  rcases back_cases h.inv hk e1 e2 with ⟨q, e⟩ | ⟨_, _, e⟩ <;> rw [e]
  · refine ⟨fun _ h1 h2 => ?_, fun hn => ?_⟩
    · subst h1
      exact h.eq hsl (.inl ⟨h2, rfl⟩)
    · by_cases hne : k = s
      · subst hne
        have hl := h.life
        have h3 : veA b k ≠ v := fun h4 => hn ⟨rfl, rfl, h4⟩
        refine h.eq hsl ?_
        cases al with
        | true => exact (h3 hl.1).elim
        | false => simp only [cond_false] at hl ⊢; omega
      · exact h.ne hk hsl hne
  · exact ⟨fun h1 => by simp at h1, fun _ => h⟩

/-! ### Versions grow by one a step -/
def VB (m : Int) (a : A) : Prop := ∀ x ∈ a.2.1, x ≤ m
theorem VB.mono {m m' : Int} {a : A} (h : VB m a) (hm : m ≤ m') : VB m' a := fun x hx => Int.le_trans (h x hx) hm
theorem VB.get {m : Int} {a : A} (h : VB m a) (h0 : 0 ≤ m) (k : Int) : veA a k ≤ m := by
  unfold veA rd
  rw [List.getD_eq_getElem?_getD]
  cases hx : a.2.1[k.toNat]? with
  | none => exact h0
  | some x => exact h x (List.mem_of_getElem? hx)
theorem VB.set {m : Int} {a : A} (h : VB m a) {k s v o : Int} (hv : v ≤ m) : VB m (setA a k s v o) := by
  intro x hx
  rcases List.mem_or_eq_of_mem_set hx with h1 | h1
  · exact h x h1
  · omega
theorem take_vb {a : A} {m : Int} (h : Inv a) (hb : VB m a) (h0' : 0 ≤ m) {k t : Int} (hk : In a k) (h0 : 0 ≤ t) (h1 : t < 64) : VB (m + 1) (takeF a t k).1 := by
  have := hb.get h0' k
  rcases take_cases h hk h0 h1 with ⟨_, e⟩ | ⟨_, _, e⟩ | ⟨_, _, hs, e⟩ <;> rw [e]
  · exact hb.mono (by omega)
  · exact hb.mono (by omega)
  · exact (hb.mono (by omega)).set (by omega)
theorem pub_vb {a : A} {m : Int} (h : Inv a) (hb : VB m a) (h0' : 0 ≤ m) {k t : Int} {g : H} (hk : In a k) (h0 : 0 ≤ t) (h1 : t < 64) (e1 : g.1 = k) (e2 : g.2.1 = veA a k) : VB m (pubF a t g).1 := by
  have := hb.get h0' k
  rcases pub_cases h hk h0 h1 e1 e2 with ⟨_, _, e⟩ | ⟨_, e', _, e⟩ <;> rw [e]
  · exact hb.set this
  · exact hb
theorem ret_vb {a : A} {m : Int} (h : Inv a) (hb : VB m a) (h0' : 0 ≤ m) {k : Int} {g : H} (hk : In a k) (e1 : g.1 = k) (e2 : g.2.1 = veA a k) : VB m (retF a g).1 := by
  have := hb.get h0' k
  rcases ret_cases h hk e1 e2 with ⟨_, e⟩ | ⟨_, e⟩ <;> rw [e]
  · exact hb.set this
  · exact hb
theorem back_vb {a : A} {m : Int} (h : Inv a) (hb : VB m a) (h0' : 0 ≤ m) {k : Int} {g : H} (hk : In a k) (e1 : g.1 = k) (e2 : g.2.1 = veA a k) : VB m (backF a g).1 := by
  have := hb.get h0' k
  rcases back_cases h hk e1 e2 with ⟨_, e⟩ | ⟨_, _, e⟩ <;> rw [e]
  · exact hb.set this
  · exact hb
theorem step_vb {a : A} {m : Int} (h : Inv a) (hb : VB m a) (h0' : 0 ≤ m) {r : T3} (hr : Raw r) : VB (m + 1) (stepF a r) := by
  have hk := In.pick h hr.b
  obtain ⟨t0, t1⟩ := thr hr.c
  unfold stepF
  simp only
  cases (pickF r.1 5 == 0)
  case true => exact take_vb h hb h0' hk t0 t1
  cases (pickF r.1 5 == 1)
  case true => exact (pub_vb h hb h0' hk t0 t1 rfl rfl).mono (by omega)
  cases (pickF r.1 5 == 2)
  case true => exact (ret_vb h hb h0' hk rfl rfl).mono (by omega)
  cases (pickF r.1 5 == 3)
  case true => exact (back_vb h hb h0' hk rfl rfl).mono (by omega)
  have h2 := take_good h hk t0 t1
  exact pub_vb (g := hOf (takeF a (pickF r.2.2 3) (pickF r.2.1 a.1.length)).1 (pickF r.2.1 a.1.length)) h2.1 (take_vb h hb h0' hk t0 t1) (by omega) (k := pickF r.2.1 a.1.length) ⟨hk.lo, by rw [h2.2]; exact hk.hi⟩ t0 t1 rfl rfl
theorem fold_vb : ∀ (l : List T3) (a : A) (m : Int), Inv a → VB m a → 0 ≤ m → (∀ r ∈ l, Raw r) → VB (m + l.length) (l.foldl stepF a)
  | [], a, m, _, hb, _, _ => hb.mono (by simp)
  | r :: l, a, m, h, hb, h0, hr => by
    have := fold_vb l _ (m + 1) (step_good h (hr r (by simp))).1 (step_vb h hb h0 (hr r (by simp))) (by omega) (fun x hx => hr x (by simp [hx]))
    refine VB.mono this ?_
    simp
    omega
theorem arena_vb {n : Int} {raw : List T3} (h : i6 n = true) (hr : rawB raw = true) : VB 40 (arenaF n raw) := by
  have hm := many_in h
  have hb : VB 0 (newF (wr (1 + pickF n 6)).toNat) := by
    intro x hx
    have := List.eq_of_mem_replicate hx
    omega
  have := fold_vb (raw.take 40) _ 0 (new_inv (by omega) (by omega)) hb (Int.le_refl _) fun r hm => raw_of hr (List.mem_of_mem_take hm)
  refine VB.mono this ?_
  have : (raw.take 40).length ≤ 40 := by simp; omega
  omega

/-! ### The law -/
theorem livesLoop (raw : List T3) (hraw : rawB raw = true) (n s v : Int) : ∀ (l : List T3) (i : Nat) (al : Bool) (a : A), raw.drop i = l → i ≤ 40 → Liv al a n s v →
    Good C5 (finF Try.prog [some .bool]) (headS Try.prog 3 12 (env3 (i : Int) n al true raw)) [] (heap3 a (s, v, false, false)) (.dat .bool true, [])
  | [], i, al, a, h, hi, ha => good_step ok5 (T := cuts3) (fuel := 1000) (n := 40) (by
      refine (livesL_t _ _ _ _ _ _ _ _).trans ?_
      have : ¬ i < raw.length := by
        have := congrArg List.length h
        simp at this; omega
      unfold livesL_e
      rw [decide_eq_false (by omega)]
      simp only [cond_false])
  | r :: l, i, al, a, h, hi, ha => by
    obtain ⟨b1, b2, b3, b4, b5⟩ := rd_dropG (z := zel (.st (.cons I (.cons I I)))) h
    by_cases h40 : i < 40
    case neg =>
      refine good_step ok5 (T := cuts3) (fuel := 1000) (n := 40) ((livesL_t _ _ _ _ _ _ _ _).trans ?_)
      unfold livesL_e
      rw [decide_eq_true (by omega), decide_eq_false (by omega)]
      simp only [cond_false, cond_true]
    have hr := raw_of hraw b5
    have hk := In.pick ha.inv hr.b
    obtain ⟨t0, t1⟩ := thr hr.c
    have hw : wr ((i : Int) + 1) = ((i + 1 : Nat) : Int) := by rw [wr_small (by omega) (by omega)]; omega
    have key : ∀ (al' : Bool) (x : A), Liv al' x n s v → (bif (x.1.length : Int) != n then some (DV.dat Ty.bool false, []) else bif (x.2.1.length : Int) != n then some (DV.dat Ty.bool false, []) else bif smB x then bif !((chkF x 1 (s, v, false, false) == 0) == al') then some (DV.dat Ty.bool false, []) else bif !rightB x then some (DV.dat Ty.bool false, []) else
        hold C5 (finF Try.prog [some .bool]) (.dat .bool true, []) (headS Try.prog 3 12 (env3 ((i + 1 : Nat) : Int) n al' true raw)) [] (heap3 x (s, v, false, false)) else none) = some (.dat .bool true, []) := fun al' x hx => by
      have l2 : (x.2.1.length : Int) = n := by rw [hx.inv.lens.2.1]; exact hx.len
      simp only [hx.len, l2, ne_self, hx.inv.sm, hx.inv.r, chk_live hx, beq_self_eq_true, Bool.not_true, cond_true, cond_false]
      exact hold_of (livesLoop raw hraw n s v l (i + 1) al' x b4 (by omega) hx)
    refine good_step ok5 (T := cuts3) (fuel := 1000) (n := 40) ((livesL_t _ _ _ _ _ _ _ _).trans ?_)
    unfold livesL_e
    simp only [decide_eq_true (show (i : Int) < (raw.length : Int) by omega), decide_eq_true (show (i : Int) < 40 by omega), b1, b2, nz ha.inv.lens.1, (ha.inv.ok hk).i2, ha.inv.sm, hw, beq_self_eq_true, Bool.and_true, cond_true]
    cases c0 : (pickF r.1 5 == 0)
    case true => exact key al _ (take_live ha hk t0 t1)
    cases c4 : (pickF r.1 5 == 4)
    case true => exact key al _ (take_live ha hk t0 t1)
    cases c1 : (pickF r.1 5 == 1)
    case true => exact key al _ (pub_live (g := hOf a (pickF r.2.1 a.1.length)) ha hk t0 t1 rfl rfl)
    cases c2 : (pickF r.1 5 == 2)
    case true => exact key al _ (ret_live (g := hOf a (pickF r.2.1 a.1.length)) ha hk rfl rfl)
    have hb := back_live (g := hOf a (pickF r.2.1 a.1.length)) ha hk rfl rfl
    simp only [cond_false]
    show (bif (backF a (hOf a (pickF r.2.1 a.1.length))).2 == 0 then bif pickF r.2.1 a.1.length == s && veA a (pickF r.2.1 a.1.length) == v then _ else _ else _) = _
    cases c5 : ((backF a (hOf a (pickF r.2.1 a.1.length))).2 == 0)
    case false => exact key al _ (hb.2 fun q => by rw [q.1] at c5; simp at c5)
    cases c6 : (pickF r.2.1 a.1.length == s && veA a (pickF r.2.1 a.1.length) == v)
    case false => exact key al _ (hb.2 fun q => by rw [q.2.1, ← q.2.1, q.2.2, q.2.1] at c6; simp at c6)
    simp only [Bool.and_eq_true, beq_iff_eq] at c5 c6
    exact key false _ (hb.1 c5 c6.1 c6.2)

theorem chk_live40 {a : A} {k : Int} (h : Inv a) (hk : In a k) (hs : stA a k ≠ 0) : (chkF a 0 (hOf a k) != 40) = true := by
  unfold chkF
  rw [show (hOf a k).1 = k from rfl, h.odd hk (Int.le_refl _) (by omega), show (hOf a k).2.1 = veA a k from rfl, ne_self, bF hs]
  cases (stA a k == 1) <;> cases (owA a k != 0) <;> rfl

theorem livesG (slots : Int) (raw : List T3) (slot : Int) (then_ : List T3) (h1 : i6 slots = true) (h2 : rawB raw = true) (h3 : i6 slot = true) (h4 : rawB then_ = true) :
    Good C5 (finF Try.prog [some .bool]) (startA Try.prog 3 [.dat I slots, .dat RT raw, .dat I slot, .dat RT then_]) [] [] (.dat .bool true, []) := good_step ok5 (T := cuts3) (fuel := 1000) (n := 40) (by
  refine (lives0_t _ _ _ _ _).trans ?_
  have hi := arena_inv h1 h2
  have hb := arena_vb h1 h2
  unfold lives0_e
  generalize arenaF slots raw = a at hi hb
  have hk := In.pick hi h3
  have hv := hb.get (by omega) (pickF slot a.1.length)
  have q := hi.ok hk
  simp only [h1, h2, nz hi.lens.1, q.i1, q.i2, hi.sm, Bool.and_true, cond_true]
  by_cases hs : stA a (pickF slot a.1.length) = 0
  case neg =>
    have e : (rd (zel I) a.1 (pickF slot a.1.length) != 0) = true := nT hs
    have e2 := chk_live40 hi hk hs
    unfold hOf veA at e2
    rw [e]
    simp only [cond_true]
    rw [e2]
  have e : (rd (zel I) a.1 (pickF slot a.1.length) != 0) = false := by
    have : rd (zel I) a.1 (pickF slot a.1.length) = 0 := hs
    rw [this]; rfl
  rw [e]
  obtain ⟨b, e1, hc, hco⟩ := take_turn (n := (a.1.length : Int)) (t := 1) ⟨hi, rfl, hk, hs, rfl⟩ (by omega) (by omega) (by omega)
  have k1 : chkF b 1 (pickF slot a.1.length, veA a (pickF slot a.1.length) + 1, false, false) = 0 := chk_ok hc.inv hc.i (by omega) (by omega) hc.ve (by rw [hc.st]; omega) (fun _ => hco)
  simp only [e1, k1, hc.len, hc.len2, ne_self, hc.inv.sm, cond_true, cond_false]
  have hne : stA b (pickF slot a.1.length) ≠ 0 := by rw [hc.st]; omega
  exact hold_of (livesLoop then_ h4 _ _ _ then_ 0 true b rfl (by omega) ⟨hc.inv, hc.len, hc.i, ⟨hc.ve, hne, fun _ => hco⟩⟩))

theorem rawB_of {raw : List T3} (h : okT RT raw) : rawB raw = true := List.all_eq_true.2 fun r hr => by
  have := h.2.2 r hr
  have e1 := i6_of this.1
  have e2 := i6_of this.2.1
  have e3 := i6_of this.2.2
  simp [e1, e2, e3]
theorem lives (slots : Int) (raw : List T3) (slot : Int) (then_ : List T3) (h1 : okT I slots) (h2 : okT RT raw) (h3 : okT I slot) (h4 : okT RT then_) :
    Good C5 (finF Try.prog [some .bool]) (startA Try.prog 3 [.dat I slots, .dat RT raw, .dat I slot, .dat RT then_]) [] [] (.dat .bool true, []) :=
  livesG slots raw slot then_ (i6_of h1) (rawB_of h2) (i6_of h3) (rawB_of h4)
end Go.AM.L09
