/- DERIVED. NO CLAIM IN IT. The law that nothing happens twice. -/
import Derived.Test.YteopbgebpgchfaaL09Gen4
import Derived.Test.YteopbgebpgchfaaL09V
set_option linter.unusedVariables false
set_option linter.unusedSimpArgs false
namespace Go.AM.L09
open Go.RowKit Go.Proofs Go.IntWalk

structure Same1 (a x : A) (s : Int) : Prop where
  len : x.1.length = a.1.length
  st : ∀ j, 0 ≤ j → j ≠ s → stA x j = stA a j
theorem Same1.self (a : A) (s : Int) : Same1 a a s := ⟨rfl, fun _ _ _ => rfl⟩
theorem Same1.set (a : A) {s st v o : Int} (h : 0 ≤ s) : Same1 a (setA a s st v o) s := ⟨len_set, fun j h0 hj => st_set_ne h h0 hj⟩
theorem Same1.ins {a x : A} {s : Int} (h : Same1 a x s) {j : Nat} (hj : j < a.1.length) : Go.AM.ins x.1 (j : Int) = true := by
  simp [Go.AM.ins, h.len]; omega

/-- What the codes are. -/
structure Codes (k g j i st f e : Int) : Prop where
  ce : (e == 0) = (st == 0)
  cf : (f == 0) = (st == 1)
  cg : (g == 0) = (st == 2)
  ci : (i == 0) = (st == 3 || st == 1)
  cj : i = 0 → j = 40
  ck : g = 0 → k = 40

theorem onceLoop {a b r p t : A} {s k g j i st f e : Int} (hb : Same1 a b s) (hr : Same1 a r s) (hp : Same1 a p s) (ht : Same1 a t s) (hs : a.1.length ≤ 6) (hc : Codes k g j i st f e) : ∀ (m n : Nat), n + m = a.1.length →
    Good C5 (finF Try.prog [some .bool]) (headS Try.prog 4 15 (env4 (n : Int) s k g j i st f e true)) [] (heap4 a b r p t) (.dat .bool true, [])
  | 0, n, hn => good_step ok5 (T := cuts4) (fuel := 1000) (n := 40) (by
      refine (onceL_t _ _ _ _ _ _ _ _ _ _ _ _ _ _ _ _).trans ?_
      unfold onceL_e
      rw [decide_eq_false (by omega)]
      simp only [cond_false, cond_true, hc.ce, hc.cf, hc.cg, hc.ci, beq_self_eq_true]
      have e4 : (i != 0) = !(st == 3 || st == 1) := by rw [← hc.ci]; rfl
      have e5 : (g != 0) = !(st == 2) := by rw [← hc.cg]; rfl
      have e3 : (st == 3 || st == 1) = true → (j == 40) = true := fun h => by rw [← hc.ci] at h; rw [hc.cj (by simpa using h)]; rfl
      have e6 : (st == 2) = true → (k == 40) = true := fun h => by rw [← hc.cg] at h; rw [hc.ck (by simpa using h)]; rfl
      rw [e4, e5]
      generalize (j == 40) = j' at e3 ⊢
      generalize (k == 40) = k' at e6 ⊢
      generalize (st == 3) = s3 at e3 ⊢
      generalize (st == 1) = s1 at e3 ⊢
      generalize (st == 2) = s2 at e6 ⊢
      revert e3 e6
      cases s1 <;> cases s2 <;> cases s3 <;> cases j' <;> cases k' <;> simp)
  | m + 1, n, hn => by
    have hl : n < a.1.length := by omega
    have hw : wr ((n : Int) + 1) = ((n + 1 : Nat) : Int) := by rw [wr_small (by omega) (by omega)]; omega
    have ia : ins a.1 (n : Int) = true := (Same1.self a s).ins hl
    have key := hold_of (onceLoop hb hr hp ht hs hc m (n + 1) (by omega))
    refine good_step ok5 (T := cuts4) (fuel := 1000) (n := 40) ((onceL_t _ _ _ _ _ _ _ _ _ _ _ _ _ _ _ _).trans ?_)
    unfold onceL_e
    rw [decide_eq_true (by omega), hw]
    by_cases hns : (n : Int) = s
    · have : ((n : Int) != s) = false := by rw [hns]; exact ne_self s
      rw [this]
      exact key
    · have e1 : rd (zel I) t.1 (n : Int) = rd (zel I) a.1 (n : Int) := ht.st _ (by omega) hns
      have e2 : rd (zel I) p.1 (n : Int) = rd (zel I) a.1 (n : Int) := hp.st _ (by omega) hns
      have e3 : rd (zel I) r.1 (n : Int) = rd (zel I) a.1 (n : Int) := hr.st _ (by omega) hns
      have e4 : rd (zel I) b.1 (n : Int) = rd (zel I) a.1 (n : Int) := hb.st _ (by omega) hns
      simp only [nT hns, ia, ht.ins hl, hp.ins hl, hr.ins hl, hb.ins hl, e1, e2, e3, e4, ne_self, cond_true, cond_false]
      exact key

/-- One call each, on the same slot of the same arena. -/
theorem take_same {a : A} (h : Inv a) {k t : Int} (hk : In a k) (h0 : 0 ≤ t) (h1 : t < 64) (hv : veA a k ≤ 40) : Same1 a (takeF a t k).1 k ∧ ((takeF a t k).2.2 == 0) = (stA a k == 0) := by
  rcases take_cases h hk h0 h1 with ⟨q, e⟩ | ⟨_, q, e⟩ | ⟨q, _, hs, e⟩
  · rw [e, bF q]; exact ⟨.self a k, rfl⟩
  · omega
  · rw [e, q]; exact ⟨.set a hk.lo, rfl⟩
theorem pub_same {a : A} (h : Inv a) {k : Int} (hk : In a k) : Same1 a (pubF a (bif decide (0 > owA a k) then 0 else owA a k) (hOf a k)).1 k ∧ ((pubF a (bif decide (0 > owA a k) then 0 else owA a k) (hOf a k)).2 == 0) = (stA a k == 1) := by
  have hsl := (h.ok hk).slot
  have hr : 0 ≤ (bif decide (0 > owA a k) then 0 else owA a k) ∧ (bif decide (0 > owA a k) then 0 else owA a k) < 64 ∧ (stA a k = 1 → owA a k = (bif decide (0 > owA a k) then 0 else owA a k)) := by
    simp only [slotB, Bool.and_eq_true, decide_eq_true_eq] at hsl
    have h1 := hsl.1.1
    by_cases hs : stA a k = 1
    · rw [hs] at h1
      simp only [beq_self_eq_true, cond_true, Bool.and_eq_true, decide_eq_true_eq] at h1
      rw [decide_eq_false (by omega)]
      exact ⟨h1.1, h1.2, fun _ => rfl⟩
    · rw [bF hs] at h1
      simp only [cond_false, Bool.and_eq_true, beq_iff_eq] at h1
      rw [h1.2]
      exact ⟨by decide, by decide, fun q => (hs q).elim⟩
  generalize (bif decide (0 > owA a k) then 0 else owA a k) = t at hr
  rcases pub_cases (g := hOf a k) h hk hr.1 hr.2.1 rfl rfl with ⟨q, _, e⟩ | ⟨q, c, hc, e⟩
  · rw [e, q]; exact ⟨.set a hk.lo, rfl⟩
  · have hs : stA a k ≠ 1 := fun hs => q.elim (fun q => q hs) (fun q => q (hr.2.2 hs))
    rw [e, bF hs]
    exact ⟨.self a k, bF hc⟩
theorem ret_same {a : A} (h : Inv a) {k : Int} (hk : In a k) : Same1 a (retF a (hOf a k)).1 k ∧ ((retF a (hOf a k)).2 == 0) = (stA a k == 2) ∧ ((retF a (hOf a k)).2 = 0 → (retF (retF a (hOf a k)).1 (hOf a k)).2 = 40) := by
  have hv := ver_le h hk
  rcases ret_cases (g := hOf a k) h hk rfl rfl with ⟨q, e⟩ | ⟨q, e⟩
  · have ha : At a (a.1.length : Int) k 2 (veA a k) := ⟨h, rfl, hk, q, rfl⟩
    have hb := ha.of_set (st' := 3) (v' := veA a k) (o := -1) (slot_rest hv.1 hv.2 (by omega))
    rw [e, q]
    refine ⟨.set a hk.lo, rfl, fun _ => ?_⟩
    rcases ret_cases (g := hOf a k) hb.inv hb.i rfl hb.ve.symm with ⟨q', _⟩ | ⟨_, e'⟩
    · rw [hb.st] at q'; omega
    · rw [e']
  · rw [e, bF q]; exact ⟨.self a k, rfl, fun h => by simp at h⟩
theorem back_same {a : A} (h : Inv a) {k : Int} (hk : In a k) : Same1 a (backF a (hOf a k)).1 k ∧ ((backF a (hOf a k)).2 == 0) = (stA a k == 3 || stA a k == 1) ∧ ((backF a (hOf a k)).2 = 0 → (backF (backF a (hOf a k)).1 (hOf a k)).2 = 40) := by
  have hv := ver_le h hk
  rcases back_cases (g := hOf a k) h hk rfl rfl with ⟨q, e⟩ | ⟨q, q2, e⟩
  · have ha : At a (a.1.length : Int) k (stA a k) (veA a k) := ⟨h, rfl, hk, rfl, rfl⟩
    have hb := ha.of_set (st' := 0) (v' := veA a k) (o := -1) (slot_rest hv.1 hv.2 (by omega))
    rw [e]
    refine ⟨.set a hk.lo, by rcases q with q | q <;> rw [q] <;> rfl, fun _ => ?_⟩
    rcases back_cases (g := hOf a k) hb.inv hb.i rfl hb.ve.symm with ⟨q', _⟩ | ⟨_, _, e'⟩
    · rw [hb.st] at q'; omega
    · rw [e']
  · rw [e, bF q, bF q2]; exact ⟨.self a k, rfl, fun h => by simp at h⟩

theorem onceG (slots : Int) (raw : List T3) (slot : Int) (h1 : i6 slots = true) (h2 : rawB raw = true) (h3 : i6 slot = true) :
    Good C5 (finF Try.prog [some .bool]) (startA Try.prog 4 [.dat I slots, .dat RT raw, .dat I slot]) [] [] (.dat .bool true, []) := good_step ok5 (T := cuts4) (fuel := 1000) (n := 40) (by
  refine (once0_t _ _ _ _).trans ?_
  have hi := arena_inv h1 h2
  have hb := arena_vb h1 h2
  unfold once0_e
  generalize arenaF slots raw = a at hi hb
  have hk := In.pick hi h3
  generalize pickF slot a.1.length = s at hk
  have hv := hb.get (by omega) s
  have q := hi.ok hk
  obtain ⟨t1, t2⟩ := take_same hi hk (t := 2) (by omega) (by omega) hv
  obtain ⟨p1, p2⟩ := pub_same hi hk
  obtain ⟨r1, r2, r3⟩ := ret_same hi hk
  obtain ⟨b1, b2, b3⟩ := back_same hi hk
  have gr := (ret_good (g := hOf a s) hi hk rfl rfl).1
  have gb := (back_good (g := hOf a s) hi hk rfl rfl).1
  have eo : rd (zel I) a.2.2 s = owA a s := rfl
  have es : rd (zel I) a.1 s = stA a s := rfl
  have eh : (s, rd (zel I) a.2.1 s, false, false) = hOf a s := rfl
  simp only [h1, h2, nz hi.lens.1, q.i1, q.i2, q.i3, hi.sm, eo, es, eh, gr.sm, gb.sm, t1.len, p1.len, r1.len, b1.len, ne_self, Bool.and_true, cond_true, cond_false]
  exact hold_of (onceLoop b1 r1 p1 t1 hi.le ⟨t2, p2, r2, b2, b3, r3⟩ a.1.length 0 (by omega)))

theorem once (slots : Int) (raw : List T3) (slot : Int) (h1 : okT I slots) (h2 : okT RT raw) (h3 : okT I slot) :
    Good C5 (finF Try.prog [some .bool]) (startA Try.prog 4 [.dat I slots, .dat RT raw, .dat I slot]) [] [] (.dat .bool true, []) :=
  onceG slots raw slot (i6_of h1) (rawB_of h2) (i6_of h3)
end Go.AM.L09
