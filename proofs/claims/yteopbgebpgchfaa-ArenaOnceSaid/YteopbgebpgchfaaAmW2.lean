/- DERIVED. NO CLAIM IN IT. Stores and growing appends: what the plain machine says the model does. -/
import Derived.Test.YteopbgebpgchfaaAmW
set_option linter.unusedVariables false
set_option linter.unusedSimpArgs false
namespace Go.AM
open Go.RowKit

theorem store_do {base : Nat} {w0 : World} {N0 : Nat → Prop} {m : Mem} {O : Heap} {P : Program} (hm : MR base w0 N0 m O) {n : Nat} {h : Value} {b : Nat} (hr : m.ρ n = some h) (hk : hblk h = some b)
    {cur : Array Value} {E T : TypeId} (hb : m.w.heap[b]? = some (.cells cur E (0, 0))) {v : Value} {off : Nat} (hs : v.cells.size = P.cellsOf T) (h0 : 0 < P.cellsOf T) (hle : off + v.cells.size ≤ cur.size)
    (h1 : ∀ u ∈ v.cells.toList, u.oneCell' = true) {B : Blk} (hB : B ≠ .dead)
    (hbr : ∀ w', w'.heap[b]? = some (.cells (putAt cur.toList off v.cells.toList).toArray E (0, 0)) → Ext m { m with w := w' } → BR { m with w := w' } B h) :
    ∃ w', (Instr.storeAt T (.pointer (some ⟨b, off, none⟩)) v).run P m.w = .ok () w' ∧ Ext m { m with w := w' } ∧ MR base w0 N0 { m with w := w' } (O.set n B) := by
  refine ⟨_, store_run hb hs h0 hle h1, ?_⟩
  have hg : m.w.grownBy (m.w.setRow b (putAt cur.toList off v.cells.toList).toArray) (some b) :=
    ⟨rfl, rfl, rfl, by simp, fun k _ hk => setRow_other m.w b k _ (fun e => hk (by simp [e]))⟩
  have he := upd_ext hm hr hk hg
  exact ⟨he, upd_MR hm hr hk hg hB (hbr _ (setRow_heap m.w b cur _ E _ hb) he)⟩

theorem OwnSl.upd {w w' : World} {e : TypeId} {sz : Nat} {h : Value} {n : Nat} {vs : List Value} {b : Nat} {cur : Array Value} {a : Option Addr} {cap : Nat} {j : Nat} {vc : List Value} (ha : a = some ⟨b, 0, none⟩) (hcap : 0 < cap) (hn : n ≤ cap) (hm : cap ≤ maxLen)
    (hsz : cur.size = cap * sz) (ht : cur.toList.take (n * sz) = vs) (hl : vs.length = n * sz) (hj : j + vc.length ≤ n * sz) (hb : w'.heap[b]? = some (.cells (putAt cur.toList j vc).toArray e (0, 0))) :
    OwnSl w' e sz (.slice a n cap) n (putAt vs j vc) := by
  subst ha
  have hle : n * sz ≤ cur.toList.length := by simp [hsz]; exact Nat.mul_le_mul_right _ hn
  have hp : (putAt cur.toList j vc) = putAt vs j vc ++ cur.toList.drop (n * sz) := by
    have := putAt_mid (a := []) (e := vs) (b := cur.toList.drop (n * sz)) (cs := vc) (off := j) (by omega)
    rw [← ht] at this ⊢
    simpa using this
  refine ⟨_, cap, rfl, by rw [putAt_len (by omega), hl], .inr ⟨b, _, rfl, hcap, hb, hn, hm, ?_, ?_⟩⟩
  · simp only [List.size_toArray]
    rw [putAt_len (by simp only [Array.length_toList] at hle ⊢; omega)]
    simpa using hsz
  · show List.take (n * sz) (putAt cur.toList j vc) = _
    rw [hp, List.take_left' (by rw [putAt_len (by omega), hl])]

theorem rep_put {m m' : Mem} (he : Ext m m') {t : Ty} {x x' : El t} {e vc : List Value} {off : Nat} {cs : List DV} (hx : RepC m.N m.w t x e) (hc : VRL m cs vc) (hp : pack t (putAt (unp t x) off cs) = some x') : RepC m'.N m'.w t x' (putAt e off vc) := by
  have := pack_rel ((unp_rel t x e hx).putAt (off := off) hc) hp
  exact RepC.keep he.N he.keep t x' _ this

theorem store_rel {base : Nat} {w0 : World} {N0 : Nat → Prop} {m : Mem} {O O' : Heap} {P : Program} (hm : MR base w0 N0 m O) {T : TypeId} {a x : DV} {va v : Value} (ha : VR m a va) (hx : VR m x v) (hz : sized x (P.cellsOf T) = true) (h0 : 0 < P.cellsOf T)
    (hleaf : (cellsOf x).all leafD = true) (h : storeD O a (cellsOf x) = some O') :
    ∃ w', (Instr.storeAt T va v).run P m.w = .ok () w' ∧ Ext m { m with w := w' } ∧ MR base w0 N0 { m with w := w' } O' ∧ O'.length = O.length := by
  obtain ⟨s1, s2, s3⟩ := sized_rel hz hx
  have hone := leafs_one hleaf s1
  have hcl := s1.len
  unfold storeD at h
  split at h
  · rename_i n off
    split at h
    · rename_i E old hn
      cases hc : Nat.ble (off + (cellsOf x).length) old.length <;> simp only [hc, cond_true, cond_false] at h
      · simp at h
      simp at h
      subst h
      simp only [VR] at ha
      rcases ha with ha | ⟨b, hb, rfl⟩
      · exact (notdead hm (fun _ _ _ h => h) hn (by simp) ha.1).elim
      rcases hb with hb | ⟨k, _, hb⟩
      · obtain ⟨b', vs, h1, h2, h3⟩ := blk_of hm (fun _ _ _ h => h) hn hb
        simp at h1
        subst h1
        have hol := h3.len
        have hc := Nat.le_of_ble_eq_true hc
        obtain ⟨w', r1, r2, r3⟩ := store_do (T := T) (B := .cells E (putAt old off (cellsOf x))) hm hb rfl h2 (off := off) s3 h0 (by simp only [Array.length_toList] at hol hcl ⊢; omega) hone (by simp) (fun w' hw he =>
          ⟨b, _, rfl, hw, VRL.keep he _ _ (by simpa using h3.putAt (off := off) s1)⟩)
        exact ⟨w', r1, r2, r3, by simp⟩
      · obtain ⟨b', vs, h1, h2, h3⟩ := blk_of hm (fun _ _ _ h => h) hn hb
        simp at h1
    · simp at h
  · rename_i n z i off
    have key : ∀ {B : Blk} {e : TypeId} {sz len : Nat} {B' : Blk} {a : Option Addr} {lc cap b : Nat}, O[n]? = some B → m.ρ n = some (.slice (some ⟨b, 0, none⟩) lc cap) → O' = O.set n B' → B' ≠ .dead → 0 < lc →
      (∃ vs, OwnSl m.w e sz (.slice (some ⟨b, 0, none⟩) lc cap) lc vs ∧ i.toNat * sz + off + (cellsOf x).length ≤ lc * sz ∧
        (∀ w', OwnSl w' e sz (.slice (some ⟨b, 0, none⟩) lc cap) lc (putAt vs (i.toNat * sz + off) v.cells.toList) → Ext m { m with w := w' } → BR { m with w := w' } B' (.slice (some ⟨b, 0, none⟩) lc cap))) →
      ∃ w', (Instr.storeAt T (.pointer (some ⟨b, i.toNat * sz + off, none⟩)) v).run P m.w = .ok () w' ∧ Ext m { m with w := w' } ∧ MR base w0 N0 { m with w := w' } O' ∧ O'.length = O.length := by
      rintro B e sz len B' a lc cap b hn hb rfl hB hlc ⟨vs, ⟨a0, c0, g1, g2, g3⟩, g4, g5⟩
      simp at g1
      obtain ⟨rfl, rfl⟩ := g1
      rcases g3 with ⟨_, g3⟩ | ⟨b0, cur, q1, q2, q3, q4, q5, q6, q7⟩
      · omega
      simp at q1
      subst q1
      have : i.toNat * sz + off + v.cells.size ≤ cur.size := by
        have h1 : lc * sz ≤ cap * sz := Nat.mul_le_mul_right _ q4
        simp only [Array.length_toList] at hcl
        omega
      obtain ⟨w', r1, r2, r3⟩ := store_do (T := T) (B := B') hm hb (by simp [hblk]; omega) q3 (off := i.toNat * sz + off) s3 h0 this hone hB (fun w' hw he =>
          g5 w' (OwnSl.upd (w := m.w) (h := .slice (some ⟨b, 0, none⟩) lc cap) rfl q2 q4 q5 q6 q7 g2 (by omega) hw) he)
      exact ⟨w', r1, r2, r3, by simp⟩
    simp only [VR] at ha
    split at h
    · rename_i e t xs hn
      cases hc : Nat.beq z (csz t) && Nat.ble (off + (cellsOf x).length) (csz t) <;> simp only [hc, cond_true, cond_false] at h
      · simp at h
      simp only [Bool.and_eq_true] at hc
      have hz := Nat.eq_of_beq_eq_true hc.1
      have hf := Nat.le_of_ble_eq_true hc.2
      subst hz
      rcases ha with ha | ⟨b, len, cap, hb, g0, g1, rfl⟩
      · exact (notdead hm (fun _ _ _ h => h) hn (by simp) ha.1).elim
      obtain ⟨vs, ho, hrr⟩ := blk_of hm (fun _ _ _ h => h) hn hb
      have hlen : len = xs.length := by obtain ⟨_, _, h1, _⟩ := ho; simp at h1; exact h1.2.1
      subst hlen
      have hget := rd_get' (z := zel t) g0 g1
      have hlt : i.toNat < xs.length := by omega
      have hroom : i.toNat * csz t + off + (cellsOf x).length ≤ xs.length * csz t := by
        have : (i.toNat + 1) * csz t ≤ xs.length * csz t := Nat.mul_le_mul_right _ hlt
        rw [Nat.add_mul] at this
        omega
      obtain ⟨p, q, r, hsplit, hpl, hxe⟩ := RowRep.at_ i.toNat hrr hget
      have hql := RepC.len _ _ _ hxe
      split at h
      · rename_i x' hp
        simp at h
        refine key (B := .row e t xs) (len := 0) (a := none) hn hb h.symm (by simp) (by omega) ⟨vs, ho, hroom, fun w' hw he => ⟨_, by simpa using hw, ?_⟩⟩
        have hx' := rep_put he hxe s1 hp
        have hk := RowRep.keep he.N he.keep t xs _ hrr
        rw [hsplit] at hk
        have := RowRep.set hk hpl hql hget hx'
        rw [hsplit, ← hpl, putAt_mid (by omega)]
        exact this
      · simp at h
        refine key (B := .row e t xs) (len := 0) (a := none) hn hb h.symm (by simp) (by omega) ⟨vs, ho, hroom, fun w' hw he => ⟨_, by simpa using hw, ?_, ?_⟩⟩
        · refine VRL.keep he _ _ ?_
          refine flat_set (z := csz t) (unps_rel hrr) ?_ (by simp [hget]) s1 (by omega)
          simp [unp_len]
        · intro y hy
          rcases List.mem_or_eq_of_mem_set hy with hy | rfl
          · simp at hy
            obtain ⟨x0, _, rfl⟩ := hy
            exact unp_len _ _
          · rw [putAt_len (by rw [unp_len]; omega), unp_len]
    · rename_i E t xs hn
      cases hc : Nat.beq z (csz t) && Nat.ble (off + (cellsOf x).length) (csz t) <;> simp only [hc, cond_true, cond_false] at h
      · simp at h
      simp only [Bool.and_eq_true] at hc
      have hz := Nat.eq_of_beq_eq_true hc.1
      have hf := Nat.le_of_ble_eq_true hc.2
      subst hz
      rcases ha with ha | ⟨b, len, cap, hb, g0, g1, rfl⟩
      · exact (notdead hm (fun _ _ _ h => h) hn (by simp) ha.1).elim
      obtain ⟨b', vs, h1, h2, h3, hrr⟩ := blk_of hm (fun _ _ _ h => h) hn hb
      simp at h1
      obtain ⟨rfl, rfl, rfl⟩ := h1
      have hget := rd_get' (z := zel t) g0 g1
      have hlt : i.toNat < xs.length := by omega
      have hvl := hrr.len
      have hroom : i.toNat * csz t + off + (cellsOf x).length ≤ xs.length * csz t := by
        have : (i.toNat + 1) * csz t ≤ xs.length * csz t := Nat.mul_le_mul_right _ hlt
        rw [Nat.add_mul] at this
        omega
      obtain ⟨p, q, r, hsplit, hpl, hxe⟩ := RowRep.at_ i.toNat hrr hget
      have hql := RepC.len _ _ _ hxe
      split at h
      · rename_i x' hp
        simp at h
        subst h
        obtain ⟨w', r1, r2, r3⟩ := store_do (T := T) (B := .arr E t (xs.set i.toNat x')) hm hb (by simp only [hblk]; rw [if_neg (by omega)]) h3 (off := i.toNat * csz t + off) s3 h0 (by simp only [Array.length_toList] at hvl hcl ⊢; omega) hone (by simp) (fun w' hw he => by
          refine ⟨b, _, by simp, by simpa using h2, hw, ?_⟩
          have hx' := rep_put he hxe s1 hp
          have hk := RowRep.keep he.N he.keep t xs _ hrr
          rw [hsplit] at hk
          have := RowRep.set hk hpl hql hget hx'
          simp only
          rw [hsplit, ← hpl, putAt_mid (by omega)]
          exact this)
        exact ⟨w', r1, r2, r3, by simp⟩
      · simp at h
    · rename_i e s xs hn
      cases hc : Nat.beq z s && Nat.ble (off + (cellsOf x).length) s <;> simp only [hc, cond_true, cond_false] at h
      · simp at h
      simp only [Bool.and_eq_true] at hc
      have hz := Nat.eq_of_beq_eq_true hc.1
      have hf := Nat.le_of_ble_eq_true hc.2
      subst hz
      simp at h
      rcases ha with ha | ⟨b, len, cap, hb, g0, g1, rfl⟩
      · exact (notdead hm (fun _ _ _ h => h) hn (by simp) ha.1).elim
      obtain ⟨vs, ho, hrr, hall⟩ := blk_of hm (fun _ _ _ h => h) hn hb
      have hlen : len = xs.length := by obtain ⟨_, _, h1, _⟩ := ho; simp at h1; exact h1.2.1
      subst hlen
      have hget := rd_get' (z := ([] : List DV)) g0 g1
      have hlt : i.toNat < xs.length := by omega
      have hroom : i.toNat * z + off + (cellsOf x).length ≤ xs.length * z := by
        have : (i.toNat + 1) * z ≤ xs.length * z := Nat.mul_le_mul_right _ hlt
        rw [Nat.add_mul] at this
        omega
      refine key (B := .rowD e z xs) (len := 0) (a := none) hn hb h.symm (by simp) (by omega) ⟨vs, ho, hroom, fun w' hw he => ⟨_, by simpa using hw, ?_, ?_⟩⟩
      · exact VRL.keep he _ _ (flat_set hrr hall hget s1 hf)
      · intro y hy
        have hmem : rd [] xs i ∈ xs := List.mem_of_getElem? hget
        rcases List.mem_or_eq_of_mem_set hy with hy | rfl
        · exact hall _ hy
        · rw [putAt_len (by rw [hall _ hmem]; omega), hall _ hmem]
    · simp at h
  · simp at h
end Go.AM
