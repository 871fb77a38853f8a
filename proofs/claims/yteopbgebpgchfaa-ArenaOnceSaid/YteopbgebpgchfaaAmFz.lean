/- DERIVED. NO CLAIM IN IT. Rows that are data from now on: the same memory, seen otherwise. -/
import Derived.Test.YteopbgebpgchfaaAmSim3
set_option linter.unusedVariables false
set_option linter.unusedSimpArgs false
namespace Go.AM
open Go.RowKit

theorem fz_dat {m m3 : Mem} {base : Nat} {w0 : World} {N0 : Nat → Prop} {O : Heap} (hm : MR base w0 N0 m O) (hw : m3.w = m.w) (hN : ∀ b, m.N b → m3.N b) {n : Nat} {e : TypeId} {t : Ty} {xs : List (El t)} (hO : O[n]? = some (.row e t xs)) {a : Option Addr} {len cap : Nat}
    (hr : m.ρ n = some (.slice a len cap)) (hnew : ∀ b, hblk (.slice a len cap) = some b → m3.N b) {lo hi : Int} {a' : Option Addr} {c' : Nat} (h0 : 0 ≤ lo) (h1 : lo ≤ hi) (h2 : hi ≤ xs.length) (hc : (hi - lo).toNat ≤ c') (hcm : c' ≤ maxLen)
    (ha : lo < hi → ∃ b, a = some ⟨b, 0, none⟩ ∧ a' = some ⟨b, lo.toNat * csz t, none⟩) : VR m3 (.dat (.sl t) (sub xs lo hi)) (.slice a' (hi - lo).toNat c') := by
  have hlen : (hi - lo).toNat = (sub xs lo hi).length := by rw [sub_len h0 h1 h2]; omega
  have hz : ¬ lo < hi → (hi - lo).toNat = 0 := by omega
  obtain ⟨vs, ⟨a1, cap1, e1, e2, e3⟩, e4⟩ := blk_of hm (fun _ _ _ h => h) hO hr
  simp at e1
  obtain ⟨rfl, rfl, rfl⟩ := e1
  refine dat_sl ?_
  refine ⟨a', _, c', rfl, hlen, hc, hcm, ?_⟩
  by_cases q : lo < hi
  case neg => exact .inl (hz q)
  · obtain ⟨b, rfl, rfl⟩ := ha q
    rcases e3 with ⟨_, g⟩ | ⟨b', cur, g1, g2, g3, g4, g5, g6, g7⟩
    · omega
    simp at g1
    subst g1
    refine .inr ⟨b, _, rfl, hnew b (by simp only [hblk]; rw [if_neg (by omega)]), fun i x hx => ?_⟩
    have hrange : m.w.rangeAt b 0 vs := by rw [← g7]; exact range_take (by simpa using range_of_block g3 0)
    rw [sub_get h0 h1 h2] at hx
    split at hx
    · obtain ⟨ecs, k1, k2⟩ := row_rep e4 hrange _ _ hx
      refine ⟨ecs, RepC.keep hN (fun _ _ => by rw [hw]) t x ecs k1, ?_⟩
      rw [hw]
      rw [Nat.add_mul] at k2
      simpa [Nat.add_assoc] using k2
    · simp at hx

theorem anyN_iff {ns : List Nat} {n : Nat} : anyN ns n = true ↔ n ∈ ns := by
  unfold anyN
  rw [List.any_eq_true]
  constructor
  · rintro ⟨x, h1, h2⟩; rw [Nat.eq_of_beq_eq_true h2]; exact h1
  · intro h; exact ⟨n, h, Nat.beq_refl n⟩

theorem rowsOk_get {O : Heap} {ns : List Nat} (h : rowsOk O ns = true) {n : Nat} (hn : n ∈ ns) : ∃ e t xs, O[n]? = some (.row e t xs) := by
  have := List.all_eq_true.1 h n hn
  split at this
  · exact ⟨_, _, _, by assumption⟩
  · simp at this

def Mem.fz (m : Mem) (ns : List Nat) : Mem where
  ρ := fun k => if k ∈ ns then none else m.ρ k
  N := fun b => m.N b ∨ ∃ n ∈ ns, ∃ h, m.ρ n = some h ∧ hblk h = some b
  D := fun k => m.D k ∨ k ∈ ns
  w := m.w

section
variable {base : Nat} {w0 : World} {N0 : Nat → Prop} {m : Mem} {O : Heap} {ns : List Nat}

theorem fz_own (hm : MR base w0 N0 m O) {n : Nat} (hn : n ∈ ns) {e : TypeId} {t : Ty} {xs : List (El t)} (hO : O[n]? = some (.row e t xs)) {v : Value} (q : m.ρ n = some v) : VR (m.fz ns) (.dat (.sl t) xs) v := by
  obtain ⟨vs, ⟨a, cap, e1, e2, e3⟩, e4⟩ := blk_of hm (fun _ _ _ h => h) hO q
  subst e1
  have hcap : xs.length ≤ cap ∧ cap ≤ maxLen := by
    rcases e3 with ⟨g1, g2⟩ | ⟨b, cur, _, _, _, g1, g2, _⟩
    · rw [g1, g2]; exact ⟨Nat.le_refl _, by unfold maxLen; omega⟩
    · exact ⟨g1, g2⟩
  have := fz_dat (m3 := m.fz ns) hm rfl (fun b h => .inl h) hO q (fun b hb => .inr ⟨n, hn, _, q, hb⟩) (lo := 0) (hi := (xs.length : Int)) (a' := a) (c' := cap) (by omega) (by omega) (by omega) (by simpa using hcap.1) hcap.2 (fun hlt => by
    rcases e3 with ⟨_, g2⟩ | ⟨b, cur, g1, _⟩
    · omega
    · exact ⟨b, g1, by simpa using g1⟩)
  have hs : sub xs 0 (xs.length : Int) = xs := by simp [sub]
  rw [hs] at this
  simpa using this

theorem fz_keep {n : Nat} (hn : n ∉ ns) {h : Value} (q : m.ρ n = some h) : (m.fz ns).ρ n = some h := by simp [Mem.fz, hn, q]

mutual
theorem fzD_rel (hm : MR base w0 N0 m O) (hok : rowsOk O ns = true) : ∀ (d : DV) (v : Value), VR m d v → VR (m.fz ns) (fzD O ns d) v
  | .un, v, q => by simp only [fzD, VR]
  | .dat t x, v, q => by
    simp only [fzD, VR] at q ⊢
    obtain ⟨cs, h1, h2⟩ := q
    exact ⟨cs, RepC.keep (fun b h => .inl h) (fun _ _ => rfl) t x cs h1, h2⟩
  | .raw u, v, q => by simpa only [fzD, VR] using q
  | .fp t x off, v, q => by
    simp only [fzD, VR] at q ⊢
    obtain ⟨b, o, cs, h1, h2, h3, h4⟩ := q
    exact ⟨b, o, cs, RepC.keep (fun b h => .inl h) (fun _ _ => rfl) t x cs h1, .inl h2, h3, h4⟩
  | .e0, v, q => by simpa only [fzD, VR] using q
  | .ub, v, q => by simpa only [fzD, VR] using q
  | .ptr n off, v, q => by
    simp only [fzD]
    cases hn : anyN ns n <;> simp only [cond_true, cond_false]
    · have hn : n ∉ ns := fun h => by rw [anyN_iff.2 h] at hn; simp at hn
      simp only [VR] at q ⊢
      rcases q with q | ⟨b, h1, h2⟩
      · exact .inl ⟨.inl q.1, q.2⟩
      · refine .inr ⟨b, ?_, h2⟩
        rcases h1 with h1 | ⟨k, hk, h1⟩
        · exact .inl (fz_keep hn h1)
        · exact .inr ⟨k, hk, fz_keep hn h1⟩
    · simp only [VR]
  | .ep n z i off, v, q => by
    simp only [fzD]
    cases hn : anyN ns n <;> simp only [cond_true, cond_false]
    · have hn : n ∉ ns := fun h => by rw [anyN_iff.2 h] at hn; simp at hn
      simp only [VR] at q ⊢
      rcases q with q | ⟨b, len, cap, h1, h2⟩
      · exact .inl ⟨.inl q.1, q.2⟩
      · exact .inr ⟨b, len, cap, fz_keep hn h1, h2⟩
    · simp only [VR]
  | .sl n, v, q => by
    simp only [fzD]
    cases hn : anyN ns n <;> simp only [cond_true, cond_false]
    · have hn : n ∉ ns := fun h => by rw [anyN_iff.2 h] at hn; simp at hn
      simp only [VR] at q ⊢
      rcases q with q | q
      · exact .inl ⟨.inl q.1, q.2⟩
      · exact .inr ⟨fz_keep hn q.1, q.2⟩
    · have hn := anyN_iff.1 hn
      split
      · rename_i e t xs hO
        simp only [VR] at q
        rcases q with q | ⟨q, _⟩
        · exact (notdead hm (fun _ _ _ h => h) hO (by simp) q.1).elim
        exact fz_own hm hn hO q
      · simp only [VR]
  | .sw n z lo hi, v, q => by
    simp only [fzD]
    cases hn : anyN ns n <;> simp only [cond_true, cond_false]
    · have hn : n ∉ ns := fun h => by rw [anyN_iff.2 h] at hn; simp at hn
      simp only [VR] at q ⊢
      rcases q with q | ⟨a, len, cap, a', c', h1, h2⟩
      · exact .inl ⟨.inl q.1, q.2⟩
      · exact .inr ⟨a, len, cap, a', c', fz_keep hn h1, h2⟩
    · have hn := anyN_iff.1 hn
      split
      · rename_i e t xs hO
        cases hz : Nat.beq z (csz t) <;> simp only [cond_true, cond_false]
        · simp only [VR]
        have hz := Nat.eq_of_beq_eq_true hz
        subst hz
        simp only [VR] at q
        rcases q with q | ⟨a, len, cap, a', c', q1, rfl, q3, q4, q5, q6, q7, q8, q9⟩
        · exact (notdead hm (fun _ _ _ h => h) hO (by simp) q.1).elim
        obtain ⟨vs, ⟨a1, cap1, e1, e2, e3⟩, e4⟩ := blk_of hm (fun _ _ _ h => h) hO q1
        simp at e1
        obtain ⟨rfl, rfl, rfl⟩ := e1
        exact fz_dat (m3 := m.fz ns) hm rfl (fun b h => .inl h) hO q1 (fun b hb => .inr ⟨n, hn, _, q1, hb⟩) q3 q4 q5 q6 q7 q9
      · simp only [VR]
  | .mp n, v, q => by
    simp only [fzD]
    cases hn : anyN ns n <;> simp only [cond_true, cond_false]
    · have hn : n ∉ ns := fun h => by rw [anyN_iff.2 h] at hn; simp at hn
      simp only [VR] at q ⊢
      rcases q with q | q
      · exact .inl ⟨.inl q.1, q.2⟩
      · exact .inr ⟨fz_keep hn q.1, q.2⟩
    · simp only [VR]
  | .agg cs, v, q => by
    simp only [fzD, VR] at q ⊢
    obtain ⟨vs, h1, h2⟩ := q
    exact ⟨vs, h1, fzL_rel hm hok cs _ h2⟩
  | .ifc t d, v, q => by
    simp only [fzD, VR] at q ⊢
    obtain ⟨u, h1, h2⟩ := q
    exact ⟨u, h1, fzD_rel hm hok d u h2⟩
  | .clo f a b, v, q => by
    simp only [fzD, VR] at q ⊢
    obtain ⟨fs, cs, h1, h2, h3⟩ := q
    exact ⟨fs, cs, h1, fzL_rel hm hok a _ h2, fzL_rel hm hok b _ h3⟩
  | .tup ds, v, q => by
    simp only [fzD, VR] at q ⊢
    obtain ⟨vs, h1, h2⟩ := q
    exact ⟨vs, h1, fzL_rel hm hok ds _ h2⟩
theorem fzL_rel (hm : MR base w0 N0 m O) (hok : rowsOk O ns = true) : ∀ (ds : List DV) (vs : List Value), VRL m ds vs → VRL (m.fz ns) (fzL O ns ds) vs
  | [], _, q => by simpa only [fzL, VRL] using q
  | d :: r, vs, q => by
    simp only [fzL, VRL] at q ⊢
    obtain ⟨v, vr, h1, h2, h3⟩ := q
    exact ⟨v, vr, h1, fzD_rel hm hok d v h2, fzL_rel hm hok r vr h3⟩
end

theorem fzL_len : ∀ (ds : List DV), (fzL O ns ds).length = ds.length
  | [] => rfl
  | d :: r => by simp [fzL, fzL_len r]

theorem fzL_append : ∀ (a b : List DV), fzL O ns (a ++ b) = fzL O ns a ++ fzL O ns b
  | [], b => rfl
  | d :: r, b => by simp [fzL, fzL_append r b]

theorem fzL_flatten : ∀ (xs : List (List DV)), (xs.map (fzL O ns)).flatten = fzL O ns xs.flatten
  | [] => rfl
  | x :: r => by simp [fzL_append, fzL_flatten r]

theorem fzE_rel (hm : MR base w0 N0 m O) (hok : rowsOk O ns = true) : ∀ (e : Env) (t : Nat) (v : Value), VR m (look e t) v → VR (m.fz ns) (look (fzE O ns e) t) v
  | [], t, v, q => by simp only [fzE, look, VR]
  | (k, d) :: r, t, v, q => by
    simp only [fzE]
    rw [look_cons] at q ⊢
    by_cases e : k = t
    · rw [if_pos e] at q ⊢; exact fzD_rel hm hok d v q
    · rw [if_neg e] at q ⊢; exact fzE_rel hm hok r t v q

theorem fzM_rel (hm : MR base w0 N0 m O) (hok : rowsOk O ns = true) : ∀ (es : List (Int × DV)) (ms : List MapEntry), MapEs m es ms → MapEs (m.fz ns) (es.map fun p => (p.1, fzD O ns p.2)) ms
  | [], _, q => q
  | (k, d) :: r, ms, q => by
    obtain ⟨e, er, h1, h2, h3, h4⟩ := q
    exact ⟨e, er, h1, h2, fzD_rel hm hok d _ h3, fzM_rel hm hok r er h4⟩

theorem fzB_rel (hm : MR base w0 N0 m O) (hok : rowsOk O ns = true) {B : Blk} {v : Value} (q : BR m B v) : BR (m.fz ns) (fzB O ns B) v := by
  cases B with
  | dead => exact q
  | cells T cs =>
    obtain ⟨b, vs, h1, h2, h3⟩ := q
    exact ⟨b, vs, h1, h2, fzL_rel hm hok cs _ h3⟩
  | arr T t xs =>
    obtain ⟨b, vs, h1, h2, h3, h4⟩ := q
    exact ⟨b, vs, h1, h2, h3, RowRep.keep (fun b h => .inl h) (fun _ _ => rfl) t xs _ h4⟩
  | row e t xs =>
    obtain ⟨vs, h1, h2⟩ := q
    exact ⟨vs, h1, RowRep.keep (fun b h => .inl h) (fun _ _ => rfl) t xs _ h2⟩
  | rowD e z xs =>
    obtain ⟨vs, h1, h2, h3⟩ := q
    refine ⟨vs, by rw [List.length_map]; exact h1, by rw [fzL_flatten]; exact fzL_rel hm hok _ _ h2, fun x hx => ?_⟩
    obtain ⟨y, hy, rfl⟩ := List.mem_map.1 hx
    rw [fzL_len]; exact h3 y hy
  | map T es =>
    obtain ⟨b, clock, ms, h1, h2, h3, h4⟩ := q
    exact ⟨b, clock, ms, h1, h2, fzM_rel hm hok es _ h3, h4⟩

theorem fzH_get (ns : List Nat) : ∀ (H : Heap) (i k : Nat), (fzH O ns i H)[k]? = (H[k]?).map fun B => bif anyN ns (i + k) then .dead else fzB O ns B
  | [], i, k => by simp [fzH]
  | B :: r, i, 0 => by simp [fzH]
  | B :: r, i, k + 1 => by
    simp only [fzH, List.getElem?_cons_succ]
    rw [fzH_get ns r (i + 1) k, show i + 1 + k = i + (k + 1) by omega]

theorem fzH_get0 (ns : List Nat) (H : Heap) (k : Nat) : (fzH O ns 0 H)[k]? = (H[k]?).map fun B => bif anyN ns k then .dead else fzB O ns B := by
  rw [fzH_get]; simp

theorem fzB_dead {B : Blk} (h : fzB O ns B = .dead) : B = .dead := by cases B <;> simp [fzB] at h ⊢

theorem fz_MR (hm : MR base w0 N0 m O) (hok : rowsOk O ns = true) : MR base w0 N0 (m.fz ns) (fzH O ns 0 O) := by
  have hρ : ∀ k v, (m.fz ns).ρ k = some v → k ∉ ns ∧ m.ρ k = some v := by
    intro k v hv
    simp only [Mem.fz] at hv
    split at hv
    · simp at hv
    · exact ⟨by assumption, hv⟩
  refine ⟨hm.below, hm.bsz, ?_, ?_, ?_, ?_, ?_, ?_⟩
  · rintro b (h | ⟨n, _, v, h1, h2⟩)
    · exact hm.lt b h
    · exact (hm.nN n v b h1 h2).2.2
  · rintro b (h | ⟨n, _, v, h1, h2⟩)
    · exact hm.nBase b h
    · exact .inr (hm.nN n v b h1 h2).2.1
  · intro k v b hk hb
    obtain ⟨k1, k2⟩ := hρ k v hk
    have := hm.nN k v b k2 hb
    refine ⟨?_, this.2⟩
    rintro (h | ⟨n, hn, u, h1, h2⟩)
    · exact this.1 h
    · exact k1 (hm.inj n k u v b h1 k2 h2 hb ▸ hn)
  · intro k l v u b hk hl hb hb'
    exact hm.inj k l v u b (hρ k v hk).2 (hρ l u hl).2 hb hb'
  · intro k v hk
    obtain ⟨k1, k2⟩ := hρ k v hk
    obtain ⟨B, h1, h2⟩ := hm.blk k v k2
    have hn : anyN ns k = false := by
      cases h : anyN ns k
      · rfl
      · exact (k1 (anyN_iff.1 h)).elim
    exact ⟨fzB O ns B, by rw [fzH_get0, h1]; simp [hn], fzB_rel hm hok h2⟩
  · intro k
    rw [fzH_get0]
    constructor
    · rintro (h | h)
      · have := (hm.dead k).1 h
        rw [this]
        cases hn : anyN ns k <;> simp [fzB]
      · obtain ⟨e, t, xs, hO⟩ := rowsOk_get hok h
        rw [hO]
        have : anyN ns k = true := anyN_iff.2 h
        simp [this]
    · intro h
      cases hO : O[k]? with
      | none => rw [hO] at h; simp at h
      | some B =>
        rw [hO] at h
        cases hn : anyN ns k with
        | true => exact .inr (anyN_iff.1 hn)
        | false =>
          simp only [Option.map_some, hn, cond_false, Option.some.injEq] at h
          have := fzB_dead h
          subst this
          exact .inl ((hm.dead k).2 hO)

theorem fzS_rel (hm : MR base w0 N0 m O) (hok : rowsOk O ns = true) : ∀ {st : List Fr} {cs : List Frame}, StRel m st cs → StRel (m.fz ns) (fzS O ns st) cs
  | [], cs, q => q
  | c :: r, cs, q => by
    obtain ⟨fc, fr, h1, ⟨reg, i, draw, k, b, ra, a, rest, k', o, g1, g2, g3, g4, g5, g6⟩, h3⟩ := q
    exact ⟨fc, fr, h1, ⟨reg, i, draw, k, b, ra, a, rest, k', o, g1, g2, g3, g4, ⟨g5.fn, g5.kind, g5.defers, g5.nt, fun t => fzE_rel hm hok _ t _ (g5.er t)⟩, g6⟩, fzS_rel hm hok h3⟩

theorem fzS_fn : ∀ (st : List Fr), (fzS O ns st).map (·.fn) = st.map (·.fn)
  | [] => rfl
  | c :: r => by simp [fzS, fzS_fn r]
end

theorem fz_good {R : Type} {C : Ctx} {fin : DV → Heap → Option R} {fr : Fr} {st : List Fr} {O : Heap} {ns : List Nat} {r : R} (hok : rowsOk O ns = true) (hg : Good C fin { fr with env := fzE O ns fr.env } (fzS O ns st) (fzH O ns 0 O) r) : Good C fin fr st O r := by
  refine Good.of hg (by simp [fzS_fn]) fun base w0 N0 m b ra a k' cs bot h1 h2 h3 h4 => ?_
  exact ⟨m.fz ns, b, ra, a, k', cs, .refl _ _, fz_MR h1 hok, ⟨h2.fn, h2.kind, h2.defers, h2.nt, fun t => fzE_rel h1 hok _ t _ (h2.er t)⟩, h3, fzS_rel h1 hok h4⟩
end Go.AM
