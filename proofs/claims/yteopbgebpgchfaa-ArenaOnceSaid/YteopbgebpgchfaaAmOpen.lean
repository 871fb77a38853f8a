/- DERIVED. NO CLAIM IN IT. What a claim says of an argument, told as data. -/
import Derived.Test.YteopbgebpgchfaaAmFrz
import Derived.OpenShut
import Derived.SizedLaws
import Derived.DataReads
set_option linter.unusedVariables false
set_option linter.unusedSimpArgs false
namespace Go.AM
open Go.RowKit

/-! ### Sizes -/
def alg : Ty → Nat
  | .int k => k.bits / 8
  | .bool => 1
  | .str => 8
  | .sl _ => 8
  | .st f => alg f
  | .nil => 1
  | .cons a b => max (alg a) (alg b)

def upTo (a n : Nat) : Nat := (n + (a - 1)) / a * a

mutual
def byt : Ty → Nat
  | .int k => k.bits / 8
  | .bool => 1
  | .str => 16
  | .sl _ => 24
  | .st f => upTo (alg f) (lay f 0)
  | .nil => 0
  | .cons _ _ => 0
def lay : Ty → Nat → Nat
  | .cons a b, off => lay b (lay a off)
  | .nil, off => off
  | .int k, off => upTo (k.bits / 8) off + k.bits / 8
  | .bool, off => off + 1
  | .str, off => upTo 8 off + 16
  | .sl _, off => upTo 8 off + 24
  | .st f, off => upTo (alg f) off + upTo (alg f) (lay f 0)
end

/-- What a claim's input is sure to be. -/
def okT : (t : Ty) → El t → Prop
  | .int k, x => k.min ≤ x ∧ x ≤ k.max
  | .bool, _ => True
  | .str, s => ByteArray.size s ≤ maxLen
  | .sl e, xs => List.length (α := El e) xs * byt e ≤ reachBytes ∧ List.length (α := El e) xs ≤ maxLen ∧ ∀ x, x ∈ (xs : List (El e)) → okT e x
  | .st f, x => okT f x
  | .nil, _ => True
  | .cons a b, x => okT a x.1 ∧ okT b x.2

def offsOk : List (Nat × Nat) → Nat → Nat → Bool
  | [], off, tot => Nat.beq off tot
  | (o, s) :: r, off, tot => Nat.beq o off && offsOk r (off + s) tot

def layOk (P : Program) : Nat → TypeId → Bool
  | 0, _ => false
  | n + 1, t =>
    match P.underlying t with
    | some (.int _) => true
    | some .bool => true
    | some .string => true
    | some (.slice e) => layOk P n e && Nat.blt 0 (P.cellsOf e) && (match codeOf P n e with
      | some c => Nat.beq (P.cellsOf e) (csz c) && Nat.beq (P.bytesOf e) (byt c)
      | none => false)
    | some (.struct fs) => (fs.toList.all fun f => layOk P n f.type) && offsOk (fs.toList.map fun f => (f.offset, P.cellsOf f.type)) 0 (P.cellsOf t)
    | some (.array k e) => layOk P n e && offsOk ((List.range k).map fun i => (i * P.cellsOf e, P.cellsOf e)) 0 (P.cellsOf t)
    | _ => false

theorem list_of {α : Type} {Q : Nat → α → Prop} : ∀ (n : Nat), (∀ i, i < n → ∃ x, Q i x) → ∃ xs : List α, xs.length = n ∧ ∀ i x, xs[i]? = some x → Q i x
  | 0, _ => ⟨[], rfl, by simp⟩
  | n + 1, h => by
    obtain ⟨xs, h1, h2⟩ := list_of n (fun i hi => h i (by omega))
    obtain ⟨y, hy⟩ := h n (by omega)
    refine ⟨xs ++ [y], by simp [h1], fun i x hx => ?_⟩
    by_cases hi : i < xs.length
    · rw [List.getElem?_append_left hi] at hx; exact h2 i x hx
    · rw [List.getElem?_append_right (by omega)] at hx
      have : i - xs.length = 0 := by
        cases hq : i - xs.length with
        | zero => rfl
        | succ q => rw [hq] at hx; simp at hx
      have hi' : i = n := by omega
      subst hi'
      rw [this] at hx
      simp at hx
      subst hx
      exact hy

theorem chain_rep {N : Nat → Prop} {w : World} {cs : List Value} {tot : Nat} (hl : cs.length = tot) : ∀ (items : List (Nat × Nat)) (l : List Ty) (off : Nat), items.length = l.length → offsOk items off tot = true →
    (∀ (i o s : Nat) (c : Ty), items[i]? = some (o, s) → l[i]? = some c → ∃ el : El c, RepC N w c el ((cs.drop o).take s) ∧ okT c el) → ∃ el : El (chain l), RepC N w (chain l) el (cs.drop off) ∧ okT (chain l) el
  | [], [], off, _, ho, _ => by
    have := Nat.eq_of_beq_eq_true ho
    exact ⟨(), by simp only [chain, RepC]; exact List.drop_eq_nil_of_le (by omega), trivial⟩
  | [], _ :: _, off, h, _, _ => by simp at h
  | _ :: _, [], off, h, _, _ => by simp at h
  | [(o, s)], [c], off, _, ho, hi => by
    simp only [offsOk, Bool.and_eq_true] at ho
    have h1 := Nat.eq_of_beq_eq_true ho.1
    have h2 := Nat.eq_of_beq_eq_true ho.2
    obtain ⟨el, e1, e2⟩ := hi 0 o s c rfl rfl
    refine ⟨el, ?_, e2⟩
    rw [h1, List.take_of_length_le (by simp; omega)] at e1
    exact e1
  | [(o, s)], c :: c' :: l, off, h, _, _ => by simp at h
  | (o, s) :: (o', s') :: r, [c], off, h, _, _ => by simp at h
  | (o, s) :: (o', s') :: r, c :: c' :: l, off, h, ho, hi => by
    rw [offsOk, Bool.and_eq_true] at ho
    have h1 := Nat.eq_of_beq_eq_true ho.1
    obtain ⟨el, e1, e2⟩ := hi 0 o s c rfl rfl
    obtain ⟨el', e3, e4⟩ := chain_rep hl ((o', s') :: r) (c' :: l) (off + s) (by simpa using h) ho.2 (fun i o s c h1 h2 => hi (i + 1) o s c h1 h2)
    refine ⟨(el, el'), ?_, e2, e4⟩
    simp only [chain, RepC]
    refine ⟨_, _, ?_, e1, e3⟩
    rw [h1, ← List.drop_drop, List.take_append_drop]

theorem cells_at {w : World} {base n : Nat} {a : Addr} {cs : List Value} (h : w.cells? base a n = some cs) (j : Nat) (v : Value) (hj : cs[j]? = some v) : w.cell? (a.add j) = some v := by
  unfold World.cells? at h
  split at h
  · have hlen := mapM_some_length h
    have hlt : j < cs.length := (List.getElem?_eq_some_iff.1 hj).1
    have := mapM_some_get h j j (by rw [List.getElem?_range]; rw [List.length_range] at hlen; omega)
    rw [this]; exact hj
  · simp at h

theorem cell_spot {w : World} {a : Addr} {v : Value} (h : w.cell? a = some v) : a.spot = none ∧ a.block < w.heap.size := by
  unfold World.cell? at h
  split at h
  · rename_i hb
    cases hs : a.spot with
    | none => exact ⟨rfl, (Array.getElem?_eq_some_iff.1 hb).1⟩
    | some q => simp [hs] at h
  · simp at h

theorem weightsAll_mem {H : Type} {P : Program} {e : TypeId} : ∀ {l : List (DataW H)} {d : DataW H}, d ∈ l → ∀ n ∈ d.weights P e, n ∈ DataW.weightsAll P e l
  | [], d, h, n, hn => by simp at h
  | d0 :: r, d, h, n, hn => by
    simp only [DataW.weightsAll, List.mem_append]
    rcases List.mem_cons.1 h with rfl | h
    · exact .inl hn
    · exact .inr (weightsAll_mem h n hn)

def Light {H : Type} (P : Program) (t : TypeId) (d : DataW H) : Prop := ∀ n ∈ d.weights P t, n ≤ reachBytes

theorem mapM_replicate {α β : Type} {f : α → Option β} {a : α} {b : β} (h : f a = some b) : ∀ n, (List.replicate n a).mapM f = some (List.replicate n b)
  | 0 => rfl
  | n + 1 => by simp [List.replicate_succ, h, mapM_replicate h n]

theorem open_code {H : Type} {enc : TypeId × Value → H} {P : Program} {w : World} {base : Nat} {spare : Nat → Bool} {held : Bool} : ∀ (n : Nat) (t : TypeId) (c : Ty), codeOf P n t = some c → layOk P n t = true →
    ∀ (fuel : Nat) (cs : List Value) (x : DataW H × List MemPlace), DataW.trod enc P w base spare held fuel t cs = some x → Light P t x.1 → ∃ el : El c, RepC (fun b => b < w.heap.size) w c el cs ∧ okT c el
  | 0, t, c, h, _ => by simp [codeOf] at h
  | n + 1, t, c, hc, hl => by
    intro fuel cs x hx hw
    simp only [codeOf] at hc
    simp only [layOk] at hl
    split at hc
    · rename_i k hu
      simp at hc; subst hc
      obtain ⟨v, h1, h2, h3⟩ := DataW.trod_int hu hx
      simp only [Lit.wf, Bool.and_eq_true, decide_eq_true_eq] at h3
      exact ⟨v, h1, h3⟩
    · rename_i hu
      simp at hc; subst hc
      obtain ⟨b, h1, h2⟩ := DataW.trod_bool hu hx
      exact ⟨b, h1, trivial⟩
    · rename_i hu
      simp at hc; subst hc
      obtain ⟨b, h1, h2, h3⟩ := DataW.trod_string hu hx
      exact ⟨b, h1, h3⟩
    · rename_i e hu
      obtain ⟨ce, hce, rfl⟩ := Option.map_eq_some_iff.1 hc
      simp only [hu, hce, Bool.and_eq_true, Nat.blt_eq] at hl
      obtain ⟨⟨l1, l2⟩, l3, l4⟩ := hl
      have l3 := Nat.eq_of_beq_eq_true l3
      have l4 := Nat.eq_of_beq_eq_true l4
      rcases DataW.trod_slice hu hx with ⟨rfl, _⟩ | ⟨a, len, cap, elems, rest, m, _, rfl, rfl, _, hlc, hcm, hlen, hel, _, _⟩
      · exact ⟨[], nilSl_rep _ _ _ _, by simp [okT]⟩
      · have hel' : ∀ i, i < len → ∃ el : El ce, ∃ ecs, w.cells? base (a.add (i * P.cellsOf e)) (P.cellsOf e) = some ecs ∧ RepC (fun b => b < w.heap.size) w ce el ecs ∧ okT ce el := by
          intro i hi
          have h1 := hel i hi
          rw [List.getElem?_eq_getElem (by omega)] at h1
          obtain ⟨ecs, g1, g2⟩ := Option.bind_eq_some_iff.1 h1
          obtain ⟨el, g3, g4⟩ := open_code n e ce hce l1 m ecs _ g2 (fun q hq => hw q (by
            simp only [DataW.weights, hu, List.mem_cons, List.mem_append]
            exact .inr (.inl (weightsAll_mem (List.mem_map_of_mem (List.getElem_mem _)) q hq))))
          exact ⟨el, ecs, g1, g3, g4⟩
        obtain ⟨xs, hxl, hxs⟩ := list_of len hel'
        have hwt : len * byt ce ≤ reachBytes := by
          have := hw ((elems.length + rest.length) * P.bytesOf e) (by simp [DataW.weights, hu])
          rw [l4] at this
          refine Nat.le_trans (Nat.mul_le_mul_right _ ?_) this
          omega
        refine ⟨xs, ⟨some a, len, cap, rfl, hxl.symm, hlc, hcm, ?_⟩, ?_, ?_, ?_⟩
        · rcases Nat.eq_zero_or_pos len with h0 | h0
          · exact .inl h0
          · right
            obtain ⟨el, ecs, g1, g2, g3⟩ := hel' 0 h0
            have hcsz : ecs.length = csz ce := RepC.len _ _ _ g2
            simp only [Nat.zero_mul] at g1
            have hfirst : ecs[0]? = some ecs[0] := List.getElem?_eq_getElem (by omega)
            have hc0 := cells_at g1 0 _ hfirst
            have ha0 : (a.add 0).add 0 = a := by simp [Addr.add]
            rw [ha0] at hc0
            obtain ⟨q1, q2⟩ := cell_spot hc0
            obtain ⟨b, o, sp⟩ := a
            simp only at q1 q2
            subst q1
            refine ⟨b, o, rfl, q2, fun i x hi => ?_⟩
            obtain ⟨ecs, k1, k2, k3⟩ := hxs i x hi
            refine ⟨ecs, k2, fun j v hj => ?_⟩
            have := cells_at k1 j v hj
            rw [Addr.add_mid, Addr.add_mid, l3] at this
            exact this
        · rw [hxl]; exact hwt
        · rw [hxl]; omega
        · intro x hxm
          obtain ⟨i, hi⟩ := List.getElem?_of_mem hxm
          obtain ⟨_, _, _, k3⟩ := hxs i x hi
          exact k3
    · rename_i fs hu
      obtain ⟨l, hm, rfl⟩ := Option.map_eq_some_iff.1 hc
      simp only [hu, Bool.and_eq_true, List.all_eq_true] at hl
      obtain ⟨xs, m, _, rfl, h2, h3, h4⟩ := DataW.trod_struct hu hx
      have hlen := mapM_some_length hm
      obtain ⟨el, e1, e2⟩ := chain_rep (N := fun b => b < w.heap.size) (w := w) h2 (fs.toList.map fun f => (f.offset, P.cellsOf f.type)) l 0 (by simp at hlen ⊢; omega) hl.2 (by
        intro i o s c hi hci
        simp only [List.getElem?_map, Option.map_eq_some_iff] at hi
        obtain ⟨f, hf, he⟩ := hi
        simp at he
        obtain ⟨rfl, rfl⟩ := he
        have hf' : fs[i]? = some f := by simpa using hf
        have hcode := mapM_some_get hm i f hf
        rw [hci] at hcode
        have hi2 : i < xs.length := by rw [h3]; exact (Array.getElem?_eq_some_iff.1 hf').1
        have htr := h4 i f hf'
        rw [List.getElem?_eq_getElem hi2] at htr
        exact open_code n f.type c hcode (hl.1 f (List.mem_of_getElem? hf)) m _ _ htr (fun q hq => hw q (by
          simp only [DataW.weights, hu]
          exact DataW.weights_mem_each (j := i) (by simp [hf']) (by simp [hi2]) q hq)))
      refine ⟨el, ?_, e2⟩
      simp only [RepC]
      simpa using e1
    · rename_i k e hu
      obtain ⟨ce, hce, rfl⟩ := Option.map_eq_some_iff.1 hc
      simp only [hu, Bool.and_eq_true] at hl
      obtain ⟨xs, m, _, rfl, h2, h3, h4⟩ := DataW.trod_array hu hx
      obtain ⟨el, e1, e2⟩ := chain_rep (N := fun b => b < w.heap.size) (w := w) h2 ((List.range k).map fun i => (i * P.cellsOf e, P.cellsOf e)) (List.replicate k ce) 0 (by simp) hl.2 (by
        intro i o s c hi hci
        simp only [List.getElem?_map, Option.map_eq_some_iff] at hi
        obtain ⟨f, hf, he⟩ := hi
        simp at he
        obtain ⟨rfl, rfl⟩ := he
        have hik : i < k := by
          have := (List.getElem?_eq_some_iff.1 hf).1
          simpa using this
        have hfi : f = i := by rw [List.getElem?_range hik] at hf; simpa using hf.symm
        subst hfi
        have hce2 : c = ce := by simpa [hik] using hci.symm
        subst hce2
        have hi2 : f < xs.length := by omega
        have htr := h4 f hik
        rw [List.getElem?_eq_getElem hi2] at htr
        exact open_code n e c hce hl.1 m _ _ htr (fun q hq => hw q (by
          simp only [DataW.weights, hu]
          exact weightsAll_mem (List.mem_map_of_mem (List.getElem_mem _)) q hq)))
      refine ⟨el, ?_, e2⟩
      simp only [RepC]
      simpa using e1
    · simp at hc
end Go.AM
