/- DERIVED. NO CLAIM IN IT. How the plain machine's data lies in the model's memory; what stays when memory grows. -/
import Derived.Test.YteopbgebpgchfaaAmStep
import Derived.Below
import Derived.Laws.OwnMore
set_option linter.unusedVariables false
set_option linter.unusedSimpArgs false
namespace Go.AM
open Go.RowKit

/-- The memory, as the plain machine sees it: the named blocks' handles, the blocks of data that stays, the names that are dead. -/
structure Mem where
  ρ : Nat → Option Value
  N : Nat → Prop
  D : Nat → Prop
  w : World

def CellsAt (w : World) (b o : Nat) (cs : List Value) : Prop := ∀ j v, cs[j]? = some v → w.cell? ⟨b, o + j, none⟩ = some v

def RepC (N : Nat → Prop) (w : World) : (t : Ty) → El t → List Value → Prop
  | .int k, x, cs => cs = [.int k x]
  | .bool, x, cs => cs = [.bool x]
  | .str, x, cs => cs = [.string x]
  | .sl e, xs, cs => ∃ a len cap, cs = [.slice a len cap] ∧ len = List.length (α := El e) xs ∧ len ≤ cap ∧ cap ≤ maxLen ∧
      (len = 0 ∨ ∃ b o, a = some ⟨b, o, none⟩ ∧ N b ∧ ∀ i x, (xs : List (El e))[i]? = some x → ∃ ecs, RepC N w e x ecs ∧ CellsAt w b (o + i * csz e) ecs)
  | .st f, x, cs => RepC N w f x cs
  | .nil, _, cs => cs = []
  | .cons a b, x, cs => ∃ c1 c2, cs = c1 ++ c2 ∧ RepC N w a x.1 c1 ∧ RepC N w b x.2 c2

def valOf (t : Ty) (cs : List Value) : Value :=
  match t with
  | .st _ => .agg cs.toArray
  | _ => cs.headD undef

/-- The block behind a handle. -/
def hblk : Value → Option Nat
  | .pointer (some a) => some a.block
  | .slice (some a) _ cap => if cap = 0 then none else some a.block
  | .map (some b) => some b
  | _ => none

mutual
def VR (m : Mem) : DV → Value → Prop
  | .un, _ => True
  | .dat t x, v => ∃ cs, RepC m.N m.w t x cs ∧ v = valOf t cs ∧ t ≠ .nil ∧ (∀ a b, t ≠ .cons a b)
  | .raw u, v => v = u
  | .ptr n off, v => (m.D n ∧ oneV v = true) ∨ ∃ b, (m.ρ n = some (.pointer (some ⟨b, 0, none⟩)) ∨ ∃ k, 0 < k ∧ m.ρ n = some (.slice (some ⟨b, 0, none⟩) k k)) ∧ v = .pointer (some ⟨b, off, none⟩)
  | .fp t x off, v => ∃ b o cs, RepC m.N m.w t x cs ∧ m.N b ∧ CellsAt m.w b o cs ∧ v = .pointer (some ⟨b, o + off, none⟩)
  | .ep n sz i off, v => (m.D n ∧ oneV v = true) ∨ ∃ b len cap, m.ρ n = some (.slice (some ⟨b, 0, none⟩) len cap) ∧ 0 ≤ i ∧ i < len ∧ v = .pointer (some ⟨b, i.toNat * sz + off, none⟩)
  | .sl n, v => (m.D n ∧ oneV v = true) ∨ m.ρ n = some v ∧ oneV v = true
  | .sw n sz lo hi, v => (m.D n ∧ oneV v = true) ∨ ∃ a len cap a' c', m.ρ n = some (.slice a len cap) ∧ v = .slice a' (hi - lo).toNat c' ∧ 0 ≤ lo ∧ lo ≤ hi ∧ hi ≤ len ∧
      (hi - lo).toNat ≤ c' ∧ c' ≤ maxLen ∧ (lo = 0 → a' = a ∧ c' = cap) ∧ (lo < hi → ∃ b, a = some ⟨b, 0, none⟩ ∧ a' = some ⟨b, lo.toNat * sz, none⟩)
  | .e0, v => ∃ a, v = .slice a 0 0
  | .mp n, v => (m.D n ∧ oneV v = true) ∨ m.ρ n = some v ∧ oneV v = true
  | .agg cs, v => ∃ vs, v = .agg vs ∧ VRL m cs vs.toList
  | .ifc t d, v => ∃ u, v = .iface t u ∧ VR m d u
  | .clo f a b, v => ∃ fs cs, v = .func f fs cs ∧ VRL m a fs.toList ∧ VRL m b cs.toList
  | .tup ds, v => ∃ vs, v = .tuple vs ∧ VRL m ds vs.toList
  | .ub, v => ∃ b, v = .bool b
def VRL (m : Mem) : List DV → List Value → Prop
  | [], vs => vs = []
  | d :: r, vs => ∃ v vr, vs = v :: vr ∧ VR m d v ∧ VRL m r vr
end

/-- The cells of a row of elements. -/
def RowRep (N : Nat → Prop) (w : World) (t : Ty) : List (El t) → List Value → Prop
  | [], cs => cs = []
  | x :: r, cs => ∃ c1 c2, cs = c1 ++ c2 ∧ RepC N w t x c1 ∧ RowRep N w t r c2

/-- A slice's block, with room perhaps: its first cells are these. -/
def OwnSl (w : World) (e : TypeId) (sz : Nat) (h : Value) (n : Nat) (vs : List Value) : Prop :=
  ∃ a cap, h = .slice a n cap ∧ vs.length = n * sz ∧ (cap = 0 ∧ n = 0 ∨
    ∃ b cur, a = some ⟨b, 0, none⟩ ∧ 0 < cap ∧ w.heap[b]? = some (.cells cur e (0, 0)) ∧ n ≤ cap ∧ cap ≤ maxLen ∧ cur.size = cap * sz ∧ cur.toList.take (n * sz) = vs)

def MapEs (m : Mem) : List (Int × DV) → List MapEntry → Prop
  | [], es => es = []
  | (k, d) :: r, es => ∃ e er, es = e :: er ∧ e.key = .int .i64 k ∧ VR m d e.val ∧ MapEs m r er

def BR (m : Mem) : Blk → Value → Prop
  | .dead, _ => False
  | .cells T cs, h => ∃ b vs, h = .pointer (some ⟨b, 0, none⟩) ∧ m.w.heap[b]? = some (.cells vs T (0, 0)) ∧ VRL m cs vs.toList
  | .arr T t xs, h => ∃ b vs, h = .slice (some ⟨b, 0, none⟩) xs.length xs.length ∧ 0 < xs.length ∧ m.w.heap[b]? = some (.cells vs T (0, 0)) ∧ RowRep m.N m.w t xs vs.toList
  | .row e t xs, h => ∃ vs, OwnSl m.w e (csz t) h xs.length vs ∧ RowRep m.N m.w t xs vs
  | .rowD e sz xs, h => ∃ vs, OwnSl m.w e sz h xs.length vs ∧ VRL m xs.flatten vs ∧ ∀ x ∈ xs, x.length = sz
  | .map T es, h => ∃ b clock ms, h = .map (some b) ∧ m.w.heap[b]? = some (.map ms clock) ∧ MapEs m es ms.toList ∧ ∀ e ∈ ms, e.born < clock

structure MR (base : Nat) (w0 : World) (N0 : Nat → Prop) (m : Mem) (O : Heap) : Prop where
  below : Below base w0 m.w
  bsz : base ≤ m.w.heap.size
  lt : ∀ b, m.N b → b < m.w.heap.size
  nBase : ∀ b, m.N b → N0 b ∨ base ≤ b
  nN : ∀ n h b, m.ρ n = some h → hblk h = some b → ¬ m.N b ∧ base ≤ b ∧ b < m.w.heap.size
  inj : ∀ n k h h' b, m.ρ n = some h → m.ρ k = some h' → hblk h = some b → hblk h' = some b → n = k
  blk : ∀ n h, m.ρ n = some h → ∃ B, O[n]? = some B ∧ BR m B h
  dead : ∀ n, m.D n ↔ O[n]? = some .dead

/-- What stays. -/
structure Ext (m m' : Mem) : Prop where
  ρ : ∀ n h, m.ρ n = some h → m'.ρ n = some h ∨ m'.D n
  N : ∀ b, m.N b → m'.N b
  D : ∀ n, m.D n → m'.D n
  keep : ∀ b, m.N b → m'.w.heap[b]? = m.w.heap[b]?

theorem Ext.refl (m : Mem) : Ext m m := ⟨fun _ _ h => .inl h, fun _ h => h, fun _ h => h, fun _ _ => rfl⟩

theorem Ext.trans {a b c : Mem} (h : Ext a b) (k : Ext b c) : Ext a c :=
  ⟨fun n v hv => (h.ρ n v hv).elim (fun q => k.ρ n v q) (fun q => .inr (k.D n q)), fun b q => k.N b (h.N b q), fun n q => k.D n (h.D n q),
    fun b q => (k.keep b (h.N b q)).trans (h.keep b q)⟩

theorem cell?_keep {w w' : World} {b o : Nat} (h : w'.heap[b]? = w.heap[b]?) : w'.cell? ⟨b, o, none⟩ = w.cell? ⟨b, o, none⟩ := by
  simp [World.cell?, h]

theorem CellsAt.keep {w w' : World} {b o : Nat} {cs : List Value} (h : CellsAt w b o cs) (hk : w'.heap[b]? = w.heap[b]?) : CellsAt w' b o cs :=
  fun j v hj => (cell?_keep hk).trans (h j v hj)

theorem RepC.keep {N N' : Nat → Prop} {w w' : World} (hN : ∀ b, N b → N' b) (hk : ∀ b, N b → w'.heap[b]? = w.heap[b]?) :
    ∀ (t : Ty) (x : El t) (cs : List Value), RepC N w t x cs → RepC N' w' t x cs
  | .int k, x, cs, h => h
  | .bool, x, cs, h => h
  | .str, x, cs, h => h
  | .sl e, xs, cs, h => by
    obtain ⟨a, len, cap, h1, h2, h3, h4, h5⟩ := h
    refine ⟨a, len, cap, h1, h2, h3, h4, ?_⟩
    rcases h5 with h5 | ⟨b, o, ha, hb, hx⟩
    · exact .inl h5
    · refine .inr ⟨b, o, ha, hN b hb, fun i x hi => ?_⟩
      obtain ⟨ecs, he, hc⟩ := hx i x hi
      exact ⟨ecs, RepC.keep hN hk e x ecs he, hc.keep (hk b hb)⟩
  | .st f, x, cs, h => RepC.keep hN hk f x cs h
  | .nil, x, cs, h => h
  | .cons a b, x, cs, h => by
    obtain ⟨c1, c2, h1, h2, h3⟩ := h
    exact ⟨c1, c2, h1, RepC.keep hN hk a _ c1 h2, RepC.keep hN hk b _ c2 h3⟩

theorem RepC.len {N : Nat → Prop} {w : World} : ∀ (t : Ty) (x : El t) (cs : List Value), RepC N w t x cs → cs.length = csz t
  | .int k, x, cs, h => by obtain rfl := h; rfl
  | .bool, x, cs, h => by obtain rfl := h; rfl
  | .str, x, cs, h => by obtain rfl := h; rfl
  | .sl e, xs, cs, h => by obtain ⟨a, len, cap, rfl, _⟩ := h; rfl
  | .st f, x, cs, h => RepC.len f x cs h
  | .nil, x, cs, h => by obtain rfl := h; rfl
  | .cons a b, x, cs, h => by
    obtain ⟨c1, c2, rfl, h2, h3⟩ := h
    simp [csz, RepC.len a _ c1 h2, RepC.len b _ c2 h3]

theorem RowRep.keep {N N' : Nat → Prop} {w w' : World} (hN : ∀ b, N b → N' b) (hk : ∀ b, N b → w'.heap[b]? = w.heap[b]?) (t : Ty) :
    ∀ (xs : List (El t)) (cs : List Value), RowRep N w t xs cs → RowRep N' w' t xs cs
  | [], _, h => h
  | x :: r, cs, h => by
    obtain ⟨c1, c2, h1, h2, h3⟩ := h
    exact ⟨c1, c2, h1, RepC.keep hN hk t x c1 h2, RowRep.keep hN hk t r c2 h3⟩

mutual
theorem VR.keep {m m' : Mem} (h : Ext m m') : ∀ (d : DV) (v : Value), VR m d v → VR m' d v
  | .un, _, _ => by simp only [VR]
  | .dat t x, v, q => by
    simp only [VR] at q ⊢
    obtain ⟨cs, h1, h2⟩ := q
    exact ⟨cs, RepC.keep h.N h.keep t x cs h1, h2⟩
  | .raw u, v, q => by simpa only [VR] using q
  | .ptr n off, v, q => by
    simp only [VR] at q ⊢
    rcases q with q | ⟨b, h1, h2⟩
    · exact .inl ⟨h.D n q.1, q.2⟩
    · rcases h1 with h1 | ⟨c, hc, h1⟩
      · rcases h.ρ n _ h1 with k | k
        · exact .inr ⟨b, .inl k, h2⟩
        · exact .inl ⟨k, by rw [h2]; rfl⟩
      · rcases h.ρ n _ h1 with k | k
        · exact .inr ⟨b, .inr ⟨c, hc, k⟩, h2⟩
        · exact .inl ⟨k, by rw [h2]; rfl⟩
  | .fp t x off, v, q => by
    simp only [VR] at q ⊢
    obtain ⟨b, o, cs, h1, h2, h3, h4⟩ := q
    exact ⟨b, o, cs, RepC.keep h.N h.keep t x cs h1, h.N b h2, h3.keep (h.keep b h2), h4⟩
  | .ep n sz i off, v, q => by
    simp only [VR] at q ⊢
    rcases q with q | ⟨b, len, cap, h1, h2⟩
    · exact .inl ⟨h.D n q.1, q.2⟩
    · rcases h.ρ n _ h1 with k | k
      · exact .inr ⟨b, len, cap, k, h2⟩
      · exact .inl ⟨k, by rw [h2.2.2]; rfl⟩
  | .sl n, v, q => by
    simp only [VR] at q ⊢
    rcases q with q | q
    · exact .inl ⟨h.D n q.1, q.2⟩
    · exact (h.ρ n _ q.1).elim (fun k => .inr ⟨k, q.2⟩) (fun k => .inl ⟨k, q.2⟩)
  | .sw n sz lo hi, v, q => by
    simp only [VR] at q ⊢
    rcases q with q | ⟨a, len, cap, a', c', h1, h2⟩
    · exact .inl ⟨h.D n q.1, q.2⟩
    · rcases h.ρ n _ h1 with k | k
      · exact .inr ⟨a, len, cap, a', c', k, h2⟩
      · exact .inl ⟨k, by rw [h2.1]; rfl⟩
  | .e0, v, q => by simpa only [VR] using q
  | .mp n, v, q => by
    simp only [VR] at q ⊢
    rcases q with q | q
    · exact .inl ⟨h.D n q.1, q.2⟩
    · exact (h.ρ n _ q.1).elim (fun k => .inr ⟨k, q.2⟩) (fun k => .inl ⟨k, q.2⟩)
  | .agg cs, v, q => by
    simp only [VR] at q ⊢
    obtain ⟨vs, h1, h2⟩ := q
    exact ⟨vs, h1, VRL.keep h cs _ h2⟩
  | .ifc t d, v, q => by
    simp only [VR] at q ⊢
    obtain ⟨u, h1, h2⟩ := q
    exact ⟨u, h1, VR.keep h d u h2⟩
  | .clo f a b, v, q => by
    simp only [VR] at q ⊢
    obtain ⟨fs, cs, h1, h2, h3⟩ := q
    exact ⟨fs, cs, h1, VRL.keep h a _ h2, VRL.keep h b _ h3⟩
  | .tup ds, v, q => by
    simp only [VR] at q ⊢
    obtain ⟨vs, h1, h2⟩ := q
    exact ⟨vs, h1, VRL.keep h ds _ h2⟩
  | .ub, v, q => by simpa only [VR] using q
theorem VRL.keep {m m' : Mem} (h : Ext m m') : ∀ (ds : List DV) (vs : List Value), VRL m ds vs → VRL m' ds vs
  | [], _, q => by simpa only [VRL] using q
  | d :: r, vs, q => by
    simp only [VRL] at q ⊢
    obtain ⟨v, vr, h1, h2, h3⟩ := q
    exact ⟨v, vr, h1, VR.keep h d v h2, VRL.keep h r vr h3⟩
end

theorem MapEs.keep {m m' : Mem} (h : Ext m m') : ∀ (es : List (Int × DV)) (ms : List MapEntry), MapEs m es ms → MapEs m' es ms
  | [], _, q => q
  | (k, d) :: r, ms, q => by
    obtain ⟨e, er, h1, h2, h3, h4⟩ := q
    exact ⟨e, er, h1, h2, VR.keep h d _ h3, MapEs.keep h r er h4⟩

theorem OwnSl.keep {w w' : World} {e : TypeId} {sz : Nat} {h : Value} {n : Nat} {vs : List Value} (q : OwnSl w e sz h n vs)
    (hk : ∀ b, hblk h = some b → w'.heap[b]? = w.heap[b]?) : OwnSl w' e sz h n vs := by
  obtain ⟨a, cap, rfl, hl, q⟩ := q
  refine ⟨a, cap, rfl, hl, ?_⟩
  rcases q with q | ⟨b, cur, rfl, hc, hb, r⟩
  · exact .inl q
  · exact .inr ⟨b, cur, rfl, hc, (hk b (by simp [hblk, Nat.pos_iff_ne_zero.1 hc])).trans hb, r⟩

theorem BR.keep {m m' : Mem} (h : Ext m m') (B : Blk) (v : Value) (hk : ∀ b, hblk v = some b → m'.w.heap[b]? = m.w.heap[b]?) (q : BR m B v) : BR m' B v := by
  cases B with
  | dead => exact q
  | cells T cs =>
    obtain ⟨b, vs, rfl, h2, h3⟩ := q
    exact ⟨b, vs, rfl, (hk b rfl).trans h2, VRL.keep h cs _ h3⟩
  | arr T t xs =>
    obtain ⟨b, vs, rfl, h1, h2, h3⟩ := q
    exact ⟨b, vs, rfl, h1, (hk b (by simp [hblk, Nat.pos_iff_ne_zero.1 h1])).trans h2, RowRep.keep h.N h.keep t xs _ h3⟩
  | row e t xs =>
    obtain ⟨vs, h2, h3⟩ := q
    exact ⟨vs, h2.keep hk, RowRep.keep h.N h.keep t xs _ h3⟩
  | rowD e sz xs =>
    obtain ⟨vs, h2, h3, h4⟩ := q
    exact ⟨vs, h2.keep hk, VRL.keep h _ _ h3, h4⟩
  | map T es =>
    obtain ⟨b, clock, ms, rfl, h2, h3, h4⟩ := q
    exact ⟨b, clock, ms, rfl, (hk b rfl).trans h2, MapEs.keep h es _ h3, h4⟩
end Go.AM
