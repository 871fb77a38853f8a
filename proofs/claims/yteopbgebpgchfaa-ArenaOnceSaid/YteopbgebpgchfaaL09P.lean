/- DERIVED. NO CLAIM IN IT. The plain law of the arena: no program in sight. -/
import Derived.Test.YteopbgebpgchfaaL09E
set_option linter.unusedVariables false
set_option linter.unusedSimpArgs false
namespace Go.AM.L09
open Go.RowKit Go.Proofs Go.IntWalk

theorem pick_in {c n : Int} (hc : i6 c = true) (h0 : 0 < n) : 0 ≤ pickF c n ∧ pickF c n < n := by
  simp only [i6, Bool.and_eq_true, decide_eq_true_eq] at hc
  have key : ∀ x : Int, 0 ≤ x → 0 ≤ x.tmod n ∧ x.tmod n < n := fun x hx => ⟨Int.tmod_nonneg n hx, Int.tmod_lt_of_pos x h0⟩
  unfold pickF
  by_cases h : c < 0
  · rw [decide_eq_true h]
    simp only [cond_true]
    rw [wr_in (a := c + 1) ⟨by omega, by omega⟩, wr_in (a := 0 - (c + 1)) ⟨by omega, by omega⟩]
    exact key _ (by omega)
  · rw [decide_eq_false h]
    exact key _ (by omega)

structure Inv (a : A) : Prop where
  r : rightB a = true
  le : a.1.length ≤ 6
structure In (a : A) (k : Int) : Prop where
  lo : 0 ≤ k
  hi : k < (a.1.length : Int)

theorem Inv.lens {a : A} (h : Inv a) : 1 ≤ a.1.length ∧ a.2.1.length = a.1.length ∧ a.2.2.length = a.1.length ∧ slotsB a.1 a.2.1 a.2.2 = true := by
  have := h.r
  simp only [rightB, Bool.and_eq_true, decide_eq_true_eq] at this
  obtain ⟨⟨⟨⟨h1, _⟩, h2⟩, h3⟩, h4⟩ := this
  exact ⟨h1, h2, h3, h4⟩
theorem limit_small {n : Nat} (h : n ≤ 6) : limit 8 (n : Int) = true := by
  have : ∀ m : Fin 7, limit 8 (m.val : Int) = true := by decide +kernel
  exact this ⟨n, by omega⟩
theorem Inv.sm {a : A} (h : Inv a) : smB a = true := by
  obtain ⟨h1, h2, h3, _⟩ := h.lens
  have := h.le
  simp only [smB, Bool.and_eq_true]
  exact ⟨⟨limit_small (by omega), limit_small (by omega)⟩, limit_small (by omega)⟩
theorem Inv.odd {a : A} (h : Inv a) {k t : Int} (hk : In a k) (h0 : 0 ≤ t) (h1 : t < 64) : oddB a t k = false := by
  simp only [oddB, Bool.or_eq_false_iff, Bool.not_eq_false', Bool.and_eq_true, decide_eq_true_eq, decide_eq_false_iff_not]
  exact ⟨⟨⟨h.r, h0, h1⟩, by have := hk.lo; omega⟩, by have := hk.hi; omega⟩
theorem Inv.ok {a : A} (h : Inv a) {k : Int} (hk : In a k) : OKs a k := (odd_ok (h.odd hk (Int.le_refl 0) (by omega))).2.2.2.2.2

/-! ### Reading a changed arena -/
theorem rd_set_ne {xs : List Int} {k j y : Int} (hk : 0 ≤ k) (hj : 0 ≤ j) (h : j ≠ k) : rd (zel I) (xs.set k.toNat y) j = rd (zel I) xs j := by
  have hne : k.toNat ≠ j.toNat := by omega
  simp [rd, List.getD_eq_getElem?_getD, List.getElem?_set_ne hne]
theorem st_set {a : A} {k s v o : Int} (q : OKs a k) : stA (setA a k s v o) k = s := rd_set q.i1
theorem ve_set {a : A} {k s v o : Int} (q : OKs a k) : veA (setA a k s v o) k = v := rd_set q.i2
theorem ow_set {a : A} {k s v o : Int} (q : OKs a k) : owA (setA a k s v o) k = o := rd_set q.i3
theorem st_set_ne {a : A} {k j s v o : Int} (hk : 0 ≤ k) (hj : 0 ≤ j) (h : j ≠ k) : stA (setA a k s v o) j = stA a j := rd_set_ne hk hj h
theorem ve_set_ne {a : A} {k j s v o : Int} (hk : 0 ≤ k) (hj : 0 ≤ j) (h : j ≠ k) : veA (setA a k s v o) j = veA a j := rd_set_ne hk hj h
theorem ow_set_ne {a : A} {k j s v o : Int} (hk : 0 ≤ k) (hj : 0 ≤ j) (h : j ≠ k) : owA (setA a k s v o) j = owA a j := rd_set_ne hk hj h

theorem slots_set : ∀ {l1 l2 l3 : List Int} {s v o : Int} (i : Nat), slotsB l1 l2 l3 = true → slotB s v o = true → slotsB (l1.set i s) (l2.set i v) (l3.set i o) = true
  | [], _, _, _, _, _, i, _, _ => by simp [slotsB]
  | _ :: _, [], _, _, _, _, i, _, _ => by cases i <;> simp [slotsB]
  | _ :: _, _ :: _, [], _, _, _, i, _, _ => by cases i <;> simp [slotsB]
  | a :: l1, b :: l2, c :: l3, s, v, o, i, h, hs => by
    simp only [slotsB, Bool.and_eq_true] at h
    cases i with
    | zero => simp [slotsB, h.2, hs]
    | succ i =>
      have := slots_set (l1 := l1) (l2 := l2) (l3 := l3) i h.2 hs
      simp [slotsB, h.1, this]
theorem Inv.set {a : A} (h : Inv a) {k s v o : Int} (hs : slotB s v o = true) : Inv (setA a k s v o) := by
  obtain ⟨h1, h2, h3, h4⟩ := h.lens
  have hle := h.le
  refine ⟨?_, by simp [setA]; exact hle⟩
  simp only [rightB, setA, List.length_set, Bool.and_eq_true, decide_eq_true_eq]
  exact ⟨⟨⟨⟨h1, by omega⟩, h2⟩, h3⟩, slots_set _ h4 hs⟩
theorem put_set {a : A} {k s : Int} (q : OKs a k) : putA a k s = setA a k s (veA a k) (-1) := by
  have : a.2.1.set k.toNat (veA a k) = a.2.1 := by
    have hi := q.i2
    simp only [ins, Bool.and_eq_true, decide_eq_true_eq] at hi
    have hl : k.toNat < a.2.1.length := by omega
    apply List.ext_getElem?
    intro j
    by_cases hj : k.toNat = j
    · subst hj
      simp [veA, rd, List.getD_eq_getElem?_getD, hl]
    · rw [List.getElem?_set_ne hj]
  simp only [putA, setA, this]
theorem In.set {a : A} {k j s v o : Int} (h : In a j) : In (setA a k s v o) j := ⟨h.lo, by simp [setA]; exact h.hi⟩
theorem len_set {a : A} {k s v o : Int} : (setA a k s v o).1.length = a.1.length := by simp [setA]

theorem slot_ver {s v o : Int} (h : slotB s v o = true) : 0 ≤ v ∧ v ≤ 68719476735 := by
  simp only [slotB, Bool.and_eq_true, decide_eq_true_eq] at h
  omega
theorem slot_rest {s v : Int} (h0 : 0 ≤ v) (h1 : v ≤ 68719476735) (hs : s = 0 ∨ s = 2 ∨ s = 3) : slotB s v (-1) = true := by
  rcases hs with rfl | rfl | rfl <;> simp [slotB, h0, h1]
theorem slot_one {v o : Int} (h0 : 0 ≤ v) (h1 : v ≤ 68719476735) (h2 : 0 ≤ o) (h3 : o < 64) : slotB 1 v o = true := by
  simp [slotB, h0, h1, h2, h3]

/-! ### The calls, by cases -/
theorem bF {x y : Int} (h : x ≠ y) : (x == y) = false := beq_eq_false_iff_ne.2 h
theorem nT {x y : Int} (h : x ≠ y) : (x != y) = true := bne_iff_ne.2 h
theorem take_cases {a : A} (h : Inv a) {k t : Int} (hk : In a k) (h0 : 0 ≤ t) (h1 : t < 64) :
    (stA a k ≠ 0 ∧ takeF a t k = (a, Z4, 40)) ∨ (stA a k = 0 ∧ veA a k = 68719476735 ∧ takeF a t k = (a, Z4, 42)) ∨
    (stA a k = 0 ∧ veA a k ≠ 68719476735 ∧ slotB 1 (veA a k + 1) t = true ∧ takeF a t k = (setA a k 1 (veA a k + 1) t, (k, veA a k + 1, false, false), 0)) := by
  have ho := h.odd hk h0 h1
  have hv := slot_ver (h.ok hk).slot
  unfold takeF
  rw [ho]
  by_cases hs : stA a k = 0
  · by_cases hm : veA a k = 68719476735
    · exact .inr (.inl ⟨hs, hm, by simp [hs, hm]⟩)
    · exact .inr (.inr ⟨hs, hm, slot_one (by omega) (by omega) h0 h1, by simp [hs, bF hm]⟩)
  · exact .inl ⟨hs, by simp [nT hs]⟩
theorem pub_cases {a : A} (h : Inv a) {k t : Int} {g : H} (hk : In a k) (h0 : 0 ≤ t) (h1 : t < 64) (e1 : g.1 = k) (e2 : g.2.1 = veA a k) :
    (stA a k = 1 ∧ owA a k = t ∧ pubF a t g = (setA a k 2 (veA a k) (-1), 0)) ∨ ((stA a k ≠ 1 ∨ owA a k ≠ t) ∧ ∃ e, e ≠ 0 ∧ pubF a t g = (a, e)) := by
  have ho := h.odd hk h0 h1
  subst e1
  unfold pubF
  rw [ho, ← put_set (h.ok hk)]
  by_cases hs : stA a g.1 = 1
  · by_cases hm : owA a g.1 = t
    · exact .inl ⟨hs, hm, by simp [hs, hm, e2]⟩
    · exact .inr ⟨.inr hm, 41, by omega, by simp [hs, nT hm, e2]⟩
  · exact .inr ⟨.inl hs, 40, by omega, by simp [nT hs, e2]⟩
theorem ret_cases {a : A} (h : Inv a) {k : Int} {g : H} (hk : In a k) (e1 : g.1 = k) (e2 : g.2.1 = veA a k) :
    (stA a k = 2 ∧ retF a g = (setA a k 3 (veA a k) (-1), 0)) ∨ (stA a k ≠ 2 ∧ retF a g = (a, 40)) := by
  have ho := h.odd hk (Int.le_refl 0) (by omega : (0 : Int) < 64)
  subst e1
  unfold retF
  rw [ho, ← put_set (h.ok hk)]
  by_cases hs : stA a g.1 = 2
  · exact .inl ⟨hs, by simp [hs, e2]⟩
  · exact .inr ⟨hs, by simp [nT hs, e2]⟩
theorem back_cases {a : A} (h : Inv a) {k : Int} {g : H} (hk : In a k) (e1 : g.1 = k) (e2 : g.2.1 = veA a k) :
    ((stA a k = 3 ∨ stA a k = 1) ∧ backF a g = (setA a k 0 (veA a k) (-1), 0)) ∨ (stA a k ≠ 3 ∧ stA a k ≠ 1 ∧ backF a g = (a, 40)) := by
  have ho := h.odd hk (Int.le_refl 0) (by omega : (0 : Int) < 64)
  subst e1
  unfold backF
  rw [ho, ← put_set (h.ok hk)]
  by_cases hs : stA a g.1 = 3
  · exact .inl ⟨.inl hs, by simp [hs, e2]⟩
  · by_cases hm : stA a g.1 = 1
    · exact .inl ⟨.inr hm, by simp [hm, e2]⟩
    · exact .inr ⟨hs, hm, by simp [bF hs, bF hm, e2]⟩

/-! ### All steps keep an arena right -/
def Good1 (a b : A) : Prop := Inv b ∧ b.1.length = a.1.length
theorem Good1.self {a : A} (h : Inv a) : Good1 a a := ⟨h, rfl⟩
theorem Good1.of_set {a : A} (h : Inv a) {k s v o : Int} (hs : slotB s v o = true) : Good1 a (setA a k s v o) := ⟨h.set hs, len_set⟩
theorem ver_le {a : A} (h : Inv a) {k : Int} (hk : In a k) : 0 ≤ veA a k ∧ veA a k ≤ 68719476735 := slot_ver (h.ok hk).slot
theorem take_good {a : A} (h : Inv a) {k t : Int} (hk : In a k) (h0 : 0 ≤ t) (h1 : t < 64) : Good1 a (takeF a t k).1 := by
  rcases take_cases h hk h0 h1 with ⟨_, e⟩ | ⟨_, _, e⟩ | ⟨_, _, hs, e⟩ <;> rw [e]
  · exact .self h
  · exact .self h
  · exact .of_set h hs
theorem pub_good {a : A} (h : Inv a) {k t : Int} {g : H} (hk : In a k) (h0 : 0 ≤ t) (h1 : t < 64) (e1 : g.1 = k) (e2 : g.2.1 = veA a k) : Good1 a (pubF a t g).1 := by
  have hv := ver_le h hk
  rcases pub_cases h hk h0 h1 e1 e2 with ⟨_, _, e⟩ | ⟨_, e', _, e⟩ <;> rw [e]
  · exact .of_set h (slot_rest hv.1 hv.2 (by omega))
  · exact .self h
theorem ret_good {a : A} (h : Inv a) {k : Int} {g : H} (hk : In a k) (e1 : g.1 = k) (e2 : g.2.1 = veA a k) : Good1 a (retF a g).1 := by
  have hv := ver_le h hk
  rcases ret_cases h hk e1 e2 with ⟨_, e⟩ | ⟨_, e⟩ <;> rw [e]
  · exact .of_set h (slot_rest hv.1 hv.2 (by omega))
  · exact .self h
theorem back_good {a : A} (h : Inv a) {k : Int} {g : H} (hk : In a k) (e1 : g.1 = k) (e2 : g.2.1 = veA a k) : Good1 a (backF a g).1 := by
  have hv := ver_le h hk
  rcases back_cases h hk e1 e2 with ⟨_, e⟩ | ⟨_, _, e⟩ <;> rw [e]
  · exact .of_set h (slot_rest hv.1 hv.2 (by omega))
  · exact .self h

structure Raw (r : T3) : Prop where
  a : i6 r.1 = true
  b : i6 r.2.1 = true
  c : i6 r.2.2 = true
theorem raw_of {raw : List T3} (h : rawB raw = true) {r : T3} (hr : r ∈ raw) : Raw r := by
  have := List.all_eq_true.1 h r hr
  simp only [Bool.and_eq_true] at this
  exact ⟨this.1.1, this.1.2, this.2⟩
theorem In.pick {a : A} (h : Inv a) {c : Int} (hc : i6 c = true) : In a (pickF c a.1.length) := by
  have h1 := h.lens.1
  obtain ⟨q1, q2⟩ := pick_in hc (n := (a.1.length : Int)) (by omega)
  exact ⟨q1, q2⟩
theorem thr {c : Int} (hc : i6 c = true) : 0 ≤ pickF c 3 ∧ pickF c 3 < 64 := by
  have := pick_in hc (n := 3) (by omega)
  omega
theorem step_good {a : A} (h : Inv a) {r : T3} (hr : Raw r) : Good1 a (stepF a r) := by
  have hk := In.pick h hr.b
  obtain ⟨t0, t1⟩ := thr hr.c
  unfold stepF
  simp only
  cases (pickF r.1 5 == 0)
  case true => exact take_good h hk t0 t1
  cases (pickF r.1 5 == 1)
  case true => exact pub_good h hk t0 t1 rfl rfl
  cases (pickF r.1 5 == 2)
  case true => exact ret_good h hk rfl rfl
  cases (pickF r.1 5 == 3)
  case true => exact back_good h hk rfl rfl
  have h2 := take_good h hk t0 t1
  have h3 := pub_good (g := hOf (takeF a (pickF r.2.2 3) (pickF r.2.1 a.1.length)).1 (pickF r.2.1 a.1.length)) h2.1 (k := pickF r.2.1 a.1.length) ⟨hk.lo, by rw [h2.2]; exact hk.hi⟩ t0 t1 rfl rfl
  exact ⟨h3.1, h3.2.trans h2.2⟩
theorem new_inv {n : Nat} (h0 : 1 ≤ n) (h1 : n ≤ 6) : Inv (newF n) := by
  have : ∀ m : Fin 7, 1 ≤ m.val → rightB (newF m.val) = true := by decide +kernel
  exact ⟨this ⟨n, by omega⟩ h0, by simp [newF]; exact h1⟩
theorem many_in {n : Int} (h : i6 n = true) : 1 ≤ wr (1 + pickF n 6) ∧ wr (1 + pickF n 6) ≤ 6 := by
  obtain ⟨h1, h2⟩ := pick_in h (n := 6) (by omega)
  rw [wr_in ⟨by omega, by omega⟩]
  omega
theorem fold_inv : ∀ (l : List T3) (a : A), Inv a → (∀ r ∈ l, Raw r) → Inv (l.foldl stepF a)
  | [], a, h, _ => h
  | r :: l, a, h, hr => fold_inv l _ (step_good h (hr r (by simp))).1 (fun x hx => hr x (by simp [hx]))
theorem arena_inv {n : Int} {raw : List T3} (h : i6 n = true) (hr : rawB raw = true) : Inv (arenaF n raw) := by
  have := many_in h
  exact fold_inv _ _ (new_inv (by omega) (by omega)) fun r hm => raw_of hr (List.mem_of_mem_take hm)
end Go.AM.L09
