/- DERIVED. NO CLAIM IN IT. The turns of a slot, and the law of turns. -/
import Derived.Test.YteopbgebpgchfaaL09F
set_option linter.unusedVariables false
set_option linter.unusedSimpArgs false
namespace Go.AM.L09
open Go.RowKit Go.Proofs Go.IntWalk

/-- An arena of n slots whose slot s is so. -/
structure At (a : A) (n s st v : Int) : Prop where
  inv : Inv a
  len : (a.1.length : Int) = n
  i : In a s
  st : stA a s = st
  ve : veA a s = v
theorem At.len2 {a : A} {n s st v : Int} (h : At a n s st v) : (a.2.1.length : Int) = n := by rw [h.inv.lens.2.1]; exact h.len
theorem At.ok {a : A} {n s st v : Int} (h : At a n s st v) : OKs a s := h.inv.ok h.i
theorem At.of_set {a : A} {n s st v st' v' o : Int} (h : At a n s st v) (hs : slotB st' v' o = true) : At (setA a s st' v' o) n s st' v' :=
  ⟨h.inv.set hs, by rw [len_set]; exact h.len, h.i.set, st_set h.ok, ve_set h.ok⟩
theorem At.ver {a : A} {n s st v : Int} (h : At a n s st v) : 0 ≤ v ∧ v ≤ 68719476735 := by
  have := ver_le h.inv h.i
  rw [h.ve] at this
  exact this

theorem take_turn {a : A} {n s t v : Int} (h : At a n s 0 v) (h0 : 0 ≤ t) (h1 : t < 64) (hv : v ≠ 68719476735) :
    ∃ b, takeF a t s = (b, (s, v + 1, false, false), 0) ∧ At b n s 1 (v + 1) ∧ owA b s = t := by
  rcases take_cases h.inv h.i h0 h1 with ⟨q, _⟩ | ⟨_, q, _⟩ | ⟨_, _, hs, e⟩
  · exact (q h.st).elim
  · rw [h.ve] at q; exact (hv q).elim
  · rw [h.ve] at e hs
    exact ⟨_, e, h.of_set hs, ow_set h.ok⟩
theorem pub_turn {a : A} {n s t v : Int} (h : At a n s 1 v) (ho : owA a s = t) (h0 : 0 ≤ t) (h1 : t < 64) :
    ∃ b, pubF a t (s, v, false, false) = (b, 0) ∧ At b n s 2 v := by
  rcases pub_cases (g := (s, v, false, false)) h.inv h.i h0 h1 rfl h.ve.symm with ⟨_, _, e⟩ | ⟨q, _⟩
  · rw [h.ve] at e
    exact ⟨_, e, h.of_set (slot_rest h.ver.1 h.ver.2 (by omega))⟩
  · rcases q with q | q
    · exact (q h.st).elim
    · exact (q ho).elim
theorem ret_turn {a : A} {n s v : Int} (h : At a n s 2 v) : ∃ b, retF a (s, v, false, false) = (b, 0) ∧ At b n s 3 v := by
  rcases ret_cases (g := (s, v, false, false)) h.inv h.i rfl h.ve.symm with ⟨_, e⟩ | ⟨q, _⟩
  · rw [h.ve] at e
    exact ⟨_, e, h.of_set (slot_rest h.ver.1 h.ver.2 (by omega))⟩
  · exact (q h.st).elim
theorem back_turn {a : A} {n s st v : Int} (h : At a n s st v) (hs : st = 3 ∨ st = 1) : ∃ b, backF a (s, v, false, false) = (b, 0) ∧ At b n s 0 v := by
  rcases back_cases (g := (s, v, false, false)) h.inv h.i rfl h.ve.symm with ⟨_, e⟩ | ⟨q, q', _⟩
  · rw [h.ve] at e
    exact ⟨_, e, h.of_set (slot_rest h.ver.1 h.ver.2 (by omega))⟩
  · rw [h.st] at q q'
    rcases hs with hs | hs
    · exact (q hs).elim
    · exact (q' hs).elim

theorem chk_ok {a : A} {t : Int} {g : H} (h : Inv a) (hk : In a g.1) (h0 : 0 ≤ t) (h1 : t < 64) (hv : veA a g.1 = g.2.1) (hs : stA a g.1 ≠ 0) (ho : stA a g.1 = 1 → owA a g.1 = t) : chkF a t g = 0 := by
  unfold chkF
  rw [h.odd hk h0 h1]
  by_cases h2 : stA a g.1 = 1
  · simp [hv, h2, ho h2]
  · simp [hv, bF hs, bF h2]
theorem chk_own {a : A} {t : Int} {g : H} (h : Inv a) (hk : In a g.1) (h0 : 0 ≤ t) (h1 : t < 64) (hv : veA a g.1 = g.2.1) (hs : stA a g.1 = 1) (ho : owA a g.1 ≠ t) : chkF a t g = 41 := by
  unfold chkF
  rw [h.odd hk h0 h1]
  simp [hv, hs, nT ho]

theorem next_thr {t : Int} (h0 : 0 ≤ t) (h1 : t < 64) : 0 ≤ (wr (t + 1)).tmod 64 ∧ (wr (t + 1)).tmod 64 < 64 ∧ t ≠ (wr (t + 1)).tmod 64 := by
  rw [wr_small h0 (by omega), Int.tmod_eq_emod_of_nonneg (by omega)]
  omega

def rawB2 (raw : List (Int × Int)) : Bool := raw.all fun r => i6 r.1 && i6 r.2
theorem ne_self (x : Int) : (x != x) = false := by simp

theorem turnsLoop (raw : List (Int × Int)) (hraw : rawB2 raw = true) (n s : Int) : ∀ (l : List (Int × Int)) (i : Nat) (a : A), raw.drop i = l → i ≤ 30 → At a n s 0 (i : Int) →
    Good C5 (finF Try.prog [some .bool]) (headS Try.prog 5 6 (env5 (i : Int) n s true raw)) [] (heap5 a) (.dat .bool true, [])
  | [], i, a, h, hi, ha => good_step ok5 (T := cuts5) (fuel := 1000) (n := 40) (by
      refine (turnsL_t _ _ _ _ _ _ _).trans ?_
      have : ¬ i < raw.length := by
        have := congrArg List.length h
        simp at this; omega
      unfold turnsL_e
      rw [decide_eq_false (by omega)]
      simp only [cond_false])
  | r :: l, i, a, h, hi, ha => by
    obtain ⟨b1, b2, b3, b4, b5⟩ := rd_dropG (z := zel (.st (.cons I I))) h
    by_cases h30 : i < 30
    case neg =>
      refine good_step ok5 (T := cuts5) (fuel := 1000) (n := 40) ((turnsL_t _ _ _ _ _ _ _).trans ?_)
      unfold turnsL_e
      rw [decide_eq_true (by omega), decide_eq_false (by omega)]
      simp only [cond_false, cond_true]
    have hr := List.all_eq_true.1 hraw r b5
    simp only [Bool.and_eq_true] at hr
    have ht := pick_in hr.1 (n := 64) (by omega)
    have hw : wr ((i : Int) + 1) = ((i + 1 : Nat) : Int) := by rw [wr_small (by omega) (by omega)]; omega
    obtain ⟨c, e1, hc, hco⟩ := take_turn ha ht.1 ht.2 (by omega)
    rw [show (i : Int) + 1 = ((i + 1 : Nat) : Int) by omega] at e1 hc
    obtain ⟨n0, n1, n2⟩ := next_thr ht.1 ht.2
    obtain ⟨d, e2, hd⟩ := pub_turn hc hco ht.1 ht.2
    obtain ⟨e, e3, he⟩ := ret_turn hd
    obtain ⟨f, e4, hf⟩ := back_turn he (.inl rfl)
    obtain ⟨g, e5, hg⟩ := back_turn hc (.inr rfl)
    have k1 : chkF c (pickF r.1 64) (s, ((i + 1 : Nat) : Int), false, false) = 0 := chk_ok hc.inv hc.i ht.1 ht.2 hc.ve (by rw [hc.st]; omega) (fun _ => hco)
    have k2 : chkF c ((wr (pickF r.1 64 + 1)).tmod 64) (s, ((i + 1 : Nat) : Int), false, false) = 41 := chk_own hc.inv hc.i n0 n1 hc.ve hc.st (by rw [hco]; exact n2)
    have k3 : chkF d ((wr (pickF r.1 64 + 1)).tmod 64) (s, ((i + 1 : Nat) : Int), false, false) = 0 := chk_ok hd.inv hd.i n0 n1 hd.ve (by rw [hd.st]; omega) (fun q => by rw [hd.st] at q; omega)
    have k4 : chkF e (pickF r.1 64) (s, ((i + 1 : Nat) : Int), false, false) = 0 := chk_ok he.inv he.i ht.1 ht.2 he.ve (by rw [he.st]; omega) (fun q => by rw [he.st] at q; omega)
    have key : ∀ x, At x n s 0 ((i + 1 : Nat) : Int) → hold C5 (finF Try.prog [some .bool]) (.dat .bool true, []) (headS Try.prog 5 6 (env5 ((i + 1 : Nat) : Int) n s true raw)) [] (heap5 x) = some (.dat .bool true, []) := fun x hx => hold_of (turnsLoop raw hraw n s l (i + 1) x b4 (by omega) hx)
    refine good_step ok5 (T := cuts5) (fuel := 1000) (n := 40) ((turnsL_t _ _ _ _ _ _ _).trans ?_)
    unfold turnsL_e
    have rf1 : rd (zel I) f.1 s = 0 := hf.st
    have rf2 : rd (zel I) f.2.1 s = ((i + 1 : Nat) : Int) := hf.ve
    have rg1 : rd (zel I) g.1 s = 0 := hg.st
    have rg2 : rd (zel I) g.2.1 s = ((i + 1 : Nat) : Int) := hg.ve
    simp only [decide_eq_true (show (i : Int) < (raw.length : Int) by omega), decide_eq_true (show (i : Int) < 30 by omega), b1, b2, ha.inv.sm, hw, e1, k1, k2, hc.inv.sm, e2, hd.inv.sm, e3, he.inv.sm, k3, k4, e4, e5, ne_self, hf.len, hf.len2, hg.len, hg.len2, hf.ok.i1, hf.ok.i2, hg.ok.i1, hg.ok.i2, rf1, rf2, rg1, rg2, cond_true, cond_false]
    cases decide (pickF r.2 3 > 0) with
    | true => exact key f hf
    | false => exact key g hg

theorem turnsG (slots slot : Int) (raw : List (Int × Int)) (h1 : i6 slots = true) (h2 : i6 slot = true) (h3 : rawB2 raw = true) :
    Good C5 (finF Try.prog [some .bool]) (startA Try.prog 5 [.dat I slots, .dat I slot, .dat PT raw]) [] [] (.dat .bool true, []) := good_step ok5 (T := cuts5) (fuel := 1000) (n := 40) (by
  refine (turns0_t _ _ _ _).trans ?_
  have hm := many_in h1
  unfold turns0_e
  generalize wr (1 + pickF slots 6) = n at hm
  have hp := pick_in h2 (n := n) (by omega)
  have hz : (!(n == 0)) = true := by rw [bF (by omega)]; rfl
  simp only [decide_eq_true hm.1, decide_eq_true hm.2, hz, Bool.and_true, cond_true]
  refine hold_of (turnsLoop raw h3 n (pickF slot n) raw 0 (newF n.toNat) rfl (by omega) ?_)
  have hi : In (newF n.toNat) (pickF slot n) := ⟨hp.1, by simp [newF]; omega⟩
  have hk : (pickF slot n).toNat < n.toNat := by omega
  exact ⟨new_inv (by omega) (by omega), by simp [newF]; omega, hi, by simp [stA, rd, newF, List.getD_eq_getElem?_getD, List.getElem?_replicate, hk], by simp [veA, rd, newF, List.getD_eq_getElem?_getD, List.getElem?_replicate, hk]⟩)

theorem i6_of {x : Int} (h : okT I x) : i6 x = true := by
  simp only [i6, Bool.and_eq_true, decide_eq_true_eq]
  exact ⟨h.1, h.2⟩
theorem turns (slots slot : Int) (raw : List (Int × Int)) (h1 : okT I slots) (h2 : okT I slot) (h3 : okT PT raw) :
    Good C5 (finF Try.prog [some .bool]) (startA Try.prog 5 [.dat I slots, .dat I slot, .dat PT raw]) [] [] (.dat .bool true, []) :=
  turnsG slots slot raw (i6_of h1) (i6_of h2) (List.all_eq_true.2 fun r hr => by
    have := h3.2.2 r hr
    have e1 := i6_of this.1
    have e2 := i6_of this.2
    simp [e1, e2])
end Go.AM.L09
