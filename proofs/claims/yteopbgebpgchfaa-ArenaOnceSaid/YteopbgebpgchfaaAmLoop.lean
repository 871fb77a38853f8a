/- DERIVED. NO CLAIM IN IT. Loops: at each round's head the plain machine's state is put into one form. -/
import Derived.Test.YteopbgebpgchfaaAmSim5
set_option linter.unusedVariables false
set_option linter.unusedSimpArgs false
namespace Go.AM
open Go.RowKit

def mapO {α β : Type} (f : α → Option β) : List α → Option (List β)
  | [] => some []
  | a :: r => match f a with
    | some b => (match mapO f r with
      | some l => some (b :: l)
      | none => none)
    | none => none

def namesE : Env → List Nat
  | [] => []
  | (_, d) :: r => namesD d ++ namesE r

def namesB : Blk → List Nat
  | .cells _ cs => namesL cs
  | _ => []

def simpleH : Heap → Bool
  | [] => true
  | .rowD _ _ _ :: _ => false
  | .map _ _ :: _ => false
  | _ :: r => simpleH r

def reach (O : Heap) : Nat → List Nat → List Nat → List Nat
  | 0, _, seen => seen
  | _ + 1, [], seen => seen
  | f + 1, n :: r, seen => bif seen.any (Nat.beq n) then reach O f r seen else reach O f ((match O[n]? with | some B => namesB B | none => []) ++ r) (seen ++ [n])

def posOf (n : Nat) : List Nat → Nat → Option Nat
  | [], _ => none
  | k :: r, i => bif Nat.beq n k then some i else posOf n r (i + 1)

mutual
def renD (σ : List Nat) : DV → Option DV
  | .ptr n off => match posOf n σ 0 with | some j => some (.ptr j off) | none => none
  | .ep n z i off => match posOf n σ 0 with | some j => some (.ep j z i off) | none => none
  | .sl n => match posOf n σ 0 with | some j => some (.sl j) | none => none
  | .sw n z a b => match posOf n σ 0 with | some j => some (.sw j z a b) | none => none
  | .mp n => match posOf n σ 0 with | some j => some (.mp j) | none => none
  | .agg cs => match renL σ cs with | some l => some (.agg l) | none => none
  | .ifc t d => match renD σ d with | some x => some (.ifc t x) | none => none
  | .clo f a b => match renL σ a with | some x => (match renL σ b with | some y => some (.clo f x y) | none => none) | none => none
  | .tup ds => match renL σ ds with | some l => some (.tup l) | none => none
  | .un => some .un
  | .dat t x => some (.dat t x)
  | .raw v => some (.raw v)
  | .fp t x off => some (.fp t x off)
  | .e0 => some .e0
  | .ub => some .ub
def renL (σ : List Nat) : List DV → Option (List DV)
  | [] => some []
  | d :: r => match renD σ d with | some x => (match renL σ r with | some l => some (x :: l) | none => none) | none => none
end

def renE (σ : List Nat) : Env → Option Env
  | [] => some []
  | (t, d) :: r => match renD σ d with | some x => (match renE σ r with | some l => some ((t, x) :: l) | none => none) | none => none

def renB (σ : List Nat) : Blk → Option Blk
  | .dead => some .dead
  | .cells T cs => match renL σ cs with | some l => some (.cells T l) | none => none
  | .arr T t xs => some (.arr T t xs)
  | .row e t xs => some (.row e t xs)
  | _ => none

def renH (σ : List Nat) (O : Heap) : List Nat → Option Heap
  | [] => some []
  | n :: r => match O[n]? with
    | some B => (match renB σ B with
      | some B' => (match renH σ O r with | some l => some (B' :: l) | none => none)
      | none => none)
    | none => none

def renS (σ : List Nat) : List Fr → Option (List Fr)
  | [] => some []
  | c :: r => match renE σ c.env with | some e => (match renS σ r with | some l => some ({ c with env := e } :: l) | none => none) | none => none

/-- What stays of the temps; an empty slice is made a row of one's own where told. -/
def promo (P : Program) : List (Nat × Option TypeId) → Env → Heap → Env × Heap
  | [], env, O => ([], O)
  | (t, q) :: r, env, O =>
    match q with
    | some e => (match code P e with
      | some c => bif isNilS (look env t) then
          (match promo P r env (O ++ [.row e c []]) with
          | (l, O') => ((t, .sl O.length) :: l, O')) else
          (match promo P r env O with
          | (l, O') => ((t, look env t) :: l, O'))
      | none => (match promo P r env O with
          | (l, O') => ((t, look env t) :: l, O')))
    | none => (match promo P r env O with
        | (l, O') => ((t, look env t) :: l, O'))

structure Cut where
  fn : Nat
  reg : Nat
  temps : List (Nat × Option TypeId)

def regId : Code → Nat
  | .region id _ _ => id
  | .seq a b => (match a with
    | .skip => regId b
    | .label _ => regId b
    | a => regId a)
  | .block _ b => regId b
  | .loop b => regId b
  | .scope b => regId b
  | _ => 0

def cutOf (fn reg : Nat) : List Cut → Option (List (Nat × Option TypeId))
  | [] => none
  | c :: r => bif Nat.beq c.fn fn && Nat.beq c.reg reg then some c.temps else cutOf fn reg r

def stNames : List Fr → List Nat
  | [] => []
  | c :: r => namesE c.env ++ stNames r

def gc (fr : Fr) (st : List Fr) (O : Heap) : Option (Fr × List Fr × Heap) :=
  let σ := reach O 400 (namesE fr.env ++ stNames st) []
  bif nodupB σ then
    (match renE σ fr.env, renS σ st, renH σ O σ with
    | some e, some s, some O' => some ({ fr with env := e }, s, O')
    | _, _, _ => none) else none

def canon (P : Program) (T : List Cut) (fr : Fr) (st : List Fr) (O : Heap) : Option (Fr × List Fr × Heap) :=
  match fr.todo with
  | .code b :: _ => (match cutOf fr.fn (regId b) T with
    | some ts => (match promo P ts fr.env O with
      | (e, O1) => bif simpleH O1 then gc { fr with env := e } st O1 else some ({ fr with env := e }, st, O1))
    | none => some (fr, st, O))
  | _ => some (fr, st, O)

section
variable {R : Type}
noncomputable def big (C : Ctx) (T : List Cut) (fin : DV → Heap → Option R) (fuel : Nat) : Nat → Fr → List Fr → Heap → Option R
  | 0, _, _, _ => none
  | k + 1, fr, st, O => run C (fun fr st O => match canon C.P T fr st O with
      | some (fr', st', O') => big C T fin fuel k fr' st' O'
      | none => none) fin fuel fr st O
end

/-! ### Its soundness -/
theorem posOf_spec {n : Nat} : ∀ {l : List Nat} {i j : Nat}, posOf n l i = some j → ∃ q, j = i + q ∧ l[q]? = some n
  | [], i, j, h => by simp [posOf] at h
  | k :: r, i, j, h => by
    simp only [posOf] at h
    cases hb : Nat.beq n k <;> simp only [hb, cond_true, cond_false] at h
    · obtain ⟨q, h1, h2⟩ := posOf_spec h
      exact ⟨q + 1, by omega, by simpa using h2⟩
    · have := Nat.eq_of_beq_eq_true hb
      simp at h
      exact ⟨0, by omega, by simp [this]⟩

theorem posOf_get {n j : Nat} {l : List Nat} (h : posOf n l 0 = some j) : l[j]? = some n := by
  obtain ⟨q, h1, h2⟩ := posOf_spec h
  have : j = q := by omega
  rw [this]; exact h2

def Mem.ren (m : Mem) (σ : List Nat) : Mem := { ρ := fun j => (σ[j]?).bind m.ρ, N := m.N, D := fun j => ∃ n, σ[j]? = some n ∧ m.D n, w := m.w }

theorem ren_ρ {m : Mem} {σ : List Nat} {n j : Nat} (h : posOf n σ 0 = some j) {v : Value} (hv : m.ρ n = some v) : (m.ren σ).ρ j = some v := by simp [Mem.ren, posOf_get h, hv]
theorem ren_D {m : Mem} {σ : List Nat} {n j : Nat} (h : posOf n σ 0 = some j) (hv : m.D n) : (m.ren σ).D j := ⟨n, posOf_get h, hv⟩

mutual
theorem renD_rel {m : Mem} {σ : List Nat} : ∀ (d d' : DV) (v : Value), renD σ d = some d' → VR m d v → VR (m.ren σ) d' v
  | .ptr n off, d', v, h, q => by
    simp only [renD] at h
    split at h
    · rename_i j hj
      simp at h; subst h
      simp only [VR] at q ⊢
      rcases q with q | ⟨b, h1, h2⟩
      · exact .inl ⟨ren_D hj q.1, q.2⟩
      · refine .inr ⟨b, ?_, h2⟩
        rcases h1 with h1 | ⟨k, hk, h1⟩
        · exact .inl (ren_ρ hj h1)
        · exact .inr ⟨k, hk, ren_ρ hj h1⟩
    · simp at h
  | .ep n z i off, d', v, h, q => by
    simp only [renD] at h
    split at h
    · rename_i j hj
      simp at h; subst h
      simp only [VR] at q ⊢
      rcases q with q | ⟨b, len, cap, h1, h2⟩
      · exact .inl ⟨ren_D hj q.1, q.2⟩
      · exact .inr ⟨b, len, cap, ren_ρ hj h1, h2⟩
    · simp at h
  | .sl n, d', v, h, q => by
    simp only [renD] at h
    split at h
    · rename_i j hj
      simp at h; subst h
      simp only [VR] at q ⊢
      rcases q with q | q
      · exact .inl ⟨ren_D hj q.1, q.2⟩
      · exact .inr ⟨ren_ρ hj q.1, q.2⟩
    · simp at h
  | .sw n z x y, d', v, h, q => by
    simp only [renD] at h
    split at h
    · rename_i j hj
      simp at h; subst h
      simp only [VR] at q ⊢
      rcases q with q | ⟨a, len, cap, a', c', h1, h2⟩
      · exact .inl ⟨ren_D hj q.1, q.2⟩
      · exact .inr ⟨a, len, cap, a', c', ren_ρ hj h1, h2⟩
    · simp at h
  | .mp n, d', v, h, q => by
    simp only [renD] at h
    split at h
    · rename_i j hj
      simp at h; subst h
      simp only [VR] at q ⊢
      rcases q with q | q
      · exact .inl ⟨ren_D hj q.1, q.2⟩
      · exact .inr ⟨ren_ρ hj q.1, q.2⟩
    · simp at h
  | .agg cs, d', v, h, q => by
    simp only [renD] at h
    split at h
    · rename_i l hl
      simp at h; subst h
      simp only [VR] at q ⊢
      obtain ⟨vs, h1, h2⟩ := q
      exact ⟨vs, h1, renL_rel cs l _ hl h2⟩
    · simp at h
  | .ifc t d, d', v, h, q => by
    simp only [renD] at h
    split at h
    · rename_i x hx
      simp at h; subst h
      simp only [VR] at q ⊢
      obtain ⟨u, h1, h2⟩ := q
      exact ⟨u, h1, renD_rel d x u hx h2⟩
    · simp at h
  | .clo f a b, d', v, h, q => by
    simp only [renD] at h
    split at h
    · rename_i x hx
      split at h
      · rename_i y hy
        simp at h; subst h
        simp only [VR] at q ⊢
        obtain ⟨fs, cs, h1, h2, h3⟩ := q
        exact ⟨fs, cs, h1, renL_rel a x _ hx h2, renL_rel b y _ hy h3⟩
      · simp at h
    · simp at h
  | .tup ds, d', v, h, q => by
    simp only [renD] at h
    split at h
    · rename_i l hl
      simp at h; subst h
      simp only [VR] at q ⊢
      obtain ⟨vs, h1, h2⟩ := q
      exact ⟨vs, h1, renL_rel ds l _ hl h2⟩
    · simp at h
  | .un, d', v, h, q => by simp [renD] at h; subst h; simp only [VR]
  | .dat t x, d', v, h, q => by simp [renD] at h; subst h; simp only [VR] at q ⊢; exact q
  | .raw u, d', v, h, q => by simp [renD] at h; subst h; simpa only [VR] using q
  | .fp t x off, d', v, h, q => by simp [renD] at h; subst h; simp only [VR] at q ⊢; exact q
  | .e0, d', v, h, q => by simp [renD] at h; subst h; simpa only [VR] using q
  | .ub, d', v, h, q => by simp [renD] at h; subst h; simpa only [VR] using q
theorem renL_rel {m : Mem} {σ : List Nat} : ∀ (ds ds' : List DV) (vs : List Value), renL σ ds = some ds' → VRL m ds vs → VRL (m.ren σ) ds' vs
  | [], ds', vs, h, q => by simp [renL] at h; subst h; simpa only [VRL] using q
  | d :: r, ds', vs, h, q => by
    simp only [renL] at h
    split at h
    · rename_i x hx
      split at h
      · rename_i l hl
        simp at h; subst h
        simp only [VRL] at q ⊢
        obtain ⟨v, vr, h1, h2, h3⟩ := q
        exact ⟨v, vr, h1, renD_rel d x v hx h2, renL_rel r l vr hl h3⟩
      · simp at h
    · simp at h
end

theorem renE_rel {m : Mem} {σ : List Nat} : ∀ {e e' : Env}, renE σ e = some e' → ∀ t v, VR m (look e t) v → VR (m.ren σ) (look e' t) v
  | [], e', h, t, v, q => by simp [renE] at h; subst h; simp only [look, VR]
  | (k, d) :: r, e', h, t, v, q => by
    simp only [renE] at h
    split at h
    · rename_i x hx
      split at h
      · rename_i l hl
        simp at h; subst h
        rw [look_cons] at q ⊢
        by_cases e : k = t
        · rw [if_pos e] at q ⊢; exact renD_rel d x v hx q
        · rw [if_neg e] at q ⊢; exact renE_rel hl t v q
      · simp at h
    · simp at h

theorem renB_rel {m : Mem} {σ : List Nat} {B B' : Blk} (h : renB σ B = some B') {v : Value} (q : BR m B v) : BR (m.ren σ) B' v := by
  cases B with
  | dead => exact q.elim
  | cells T cs =>
    simp only [renB] at h
    split at h
    · rename_i l hl
      simp at h; subst h
      obtain ⟨b, vs, h1, h2, h3⟩ := q
      exact ⟨b, vs, h1, h2, renL_rel cs l _ hl h3⟩
    · simp at h
  | arr T t xs => simp [renB] at h; subst h; exact q
  | row e t xs => simp [renB] at h; subst h; exact q
  | rowD e s xs => simp [renB] at h
  | map T es => simp [renB] at h

theorem renB_dead {σ : List Nat} {B B' : Blk} (h : renB σ B = some B') : B' = .dead ↔ B = .dead := by
  cases B <;> simp only [renB] at h
  case dead => simp at h; simp [h]
  case cells T cs => split at h <;> simp at h; subst h; simp
  case arr => simp at h; subst h; simp
  case row => simp at h; subst h; simp
  all_goals simp at h

theorem renH_get {σ : List Nat} {O : Heap} : ∀ {l : List Nat} {O' : Heap}, renH σ O l = some O' → ∀ j : Nat, (∀ n : Nat, l[j]? = some n → ∃ B B', O[n]? = some B ∧ renB σ B = some B' ∧ O'[j]? = some B') ∧ (l[j]? = none → O'[j]? = none)
  | [], O', h, j => by simp [renH] at h; subst h; simp
  | n :: r, O', h, j => by
    simp only [renH] at h
    split at h
    · rename_i B hB
      split at h
      · rename_i B' hB'
        split at h
        · rename_i l hl
          simp at h; subst h
          cases j with
          | zero => exact ⟨fun k hk => by simp at hk; subst hk; exact ⟨B, B', hB, hB', by simp⟩, by simp⟩
          | succ j => simpa using renH_get hl j
        · simp at h
      · simp at h
    · simp at h

theorem nodupB_inj : ∀ {l : List Nat}, nodupB l = true → ∀ (i j n : Nat), l[i]? = some n → l[j]? = some n → i = j
  | [], _, i, j, n, h, _ => by simp at h
  | k :: r, hn, i, j, n, hi, hj => by
    simp only [nodupB, Bool.and_eq_true, Bool.not_eq_true', List.any_eq_false] at hn
    have out : ∀ q, r[q]? = some k → False := fun q hq => hn.1 k (List.mem_of_getElem? hq) (Nat.beq_refl k)
    cases i with
    | zero =>
      cases j with
      | zero => rfl
      | succ j => simp at hi hj; subst hi; exact (out j hj).elim
    | succ i =>
      cases j with
      | zero => simp at hi hj; subst hj; exact (out i hi).elim
      | succ j => simp at hi hj; rw [nodupB_inj hn.2 i j n hi hj]

theorem renS_rel {m : Mem} {σ : List Nat} : ∀ {st st' : List Fr} {cs : List Frame}, renS σ st = some st' → StRel m st cs → StRel (m.ren σ) st' cs ∧ st'.map (·.fn) = st.map (·.fn)
  | [], st', cs, h, q => by simp [renS] at h; subst h; exact ⟨q, rfl⟩
  | c :: r, st', cs, h, q => by
    simp only [renS] at h
    split at h
    · rename_i e he
      split at h
      · rename_i l hl
        simp at h; subst h
        obtain ⟨fc, fr, h1, ⟨reg, i, draw, k, b, ra, a, rest, k', o, g1, g2, g3, g4, g5, g6⟩, h3⟩ := q
        obtain ⟨k1, k2⟩ := renS_rel hl h3
        exact ⟨⟨fc, fr, h1, ⟨reg, i, draw, k, b, ra, a, rest, k', o, g1, g2, g3, g4, ⟨g5.fn, g5.kind, g5.defers, g5.nt, fun t => renE_rel he t _ (g5.er t)⟩, g6⟩, k1⟩, by simp [k2]⟩
      · simp at h
    · simp at h

section
variable {R : Type} {C : Ctx} {fin : DV → Heap → Option R}

theorem gc_good {fr fr' : Fr} {st st' : List Fr} {O O' : Heap} {r : R} (h : gc fr st O = some (fr', st', O')) (hg : Good C fin fr' st' O' r) : Good C fin fr st O r := by
  unfold gc at h
  generalize reach O 400 (namesE fr.env ++ stNames st) [] = σ at h
  simp only at h
  cases hn : nodupB σ <;> simp only [hn, cond_true, cond_false] at h
  · simp at h
  split at h
  · rename_i e s H he hs hH
    simp at h
    obtain ⟨rfl, rfl, rfl⟩ := h
    have hfn : (fr.fn :: st.map (·.fn)).getLast? = (fr.fn :: s.map (·.fn)).getLast? := by
      have : s.map (·.fn) = st.map (·.fn) := by
        have q : ∀ {a b : List Fr}, renS σ a = some b → b.map (·.fn) = a.map (·.fn) := by
          intro a
          induction a with
          | nil => intro b h; simp [renS] at h; subst h; rfl
          | cons c r ih =>
            intro b h
            simp only [renS] at h
            split at h
            · split at h
              · rename_i l hl
                simp at h; subst h
                simp [ih hl]
              · simp at h
            · simp at h
        exact q hs
      rw [this]
    refine Good.of hg hfn fun base w0 N0 m b ra a k' cs bot h1 h2 h3 h4 => ?_
    refine ⟨m.ren σ, b, ra, a, k', cs, .refl _ _, ?_, ⟨h2.fn, h2.kind, h2.defers, h2.nt, fun t => renE_rel he t _ (h2.er t)⟩, h3, (renS_rel hs h4).1⟩
    have hρ : ∀ j v, (m.ren σ).ρ j = some v → ∃ n, σ[j]? = some n ∧ m.ρ n = some v := fun j v hv => Option.bind_eq_some_iff.1 hv
    refine ⟨h1.below, h1.bsz, h1.lt, h1.nBase, fun j v b hv hb => ?_, fun i j v u b hv hu hb hb' => ?_, fun j v hv => ?_, fun j => ?_⟩
    · obtain ⟨n, _, q2⟩ := hρ j v hv
      exact h1.nN n v b q2 hb
    · obtain ⟨n, q1, q2⟩ := hρ i v hv
      obtain ⟨n', q3, q4⟩ := hρ j u hu
      have := h1.inj n n' v u b q2 q4 hb hb'
      subst this
      exact nodupB_inj hn i j n q1 q3
    · obtain ⟨n, q1, q2⟩ := hρ j v hv
      obtain ⟨B, q3, q4⟩ := h1.blk n v q2
      obtain ⟨B1, B', g1, g2, g3⟩ := (renH_get hH j).1 n q1
      rw [q3] at g1
      simp at g1
      subst g1
      exact ⟨B', g3, renB_rel g2 q4⟩
    · constructor
      · rintro ⟨n, q1, q2⟩
        obtain ⟨B1, B', g1, g2, g3⟩ := (renH_get hH j).1 n q1
        rw [(h1.dead n).1 q2] at g1
        simp at g1
        subst g1
        rw [g3, (renB_dead g2).2 rfl]
      · intro q
        cases hj : σ[j]? with
        | none => rw [(renH_get hH j).2 hj] at q; simp at q
        | some n =>
          obtain ⟨B1, B', g1, g2, g3⟩ := (renH_get hH j).1 n hj
          rw [g3] at q
          simp at q
          have := (renB_dead g2).1 q
          subst this
          exact ⟨n, hj, (h1.dead n).2 g1⟩
  · simp at h

theorem promo_rel {P : Program} {base : Nat} {w0 : World} {N0 : Nat → Prop} : ∀ (ts : List (Nat × Option TypeId)) {env e : Env} {O O' : Heap} {m : Mem} {a : Act}, promo P ts env O = (e, O') → MR base w0 N0 m O → ER m env a →
    ∃ m', Ext m m' ∧ m'.w = m.w ∧ MR base w0 N0 m' O' ∧ ER m' e a
  | [], env, e, O, O', m, a, h, hm, he => by
    simp [promo] at h
    obtain ⟨rfl, rfl⟩ := h
    exact ⟨m, Ext.refl m, rfl, hm, fun t => by simp only [look, VR]⟩
  | (t, q) :: r, env, e, O, O', m, a, h, hm, he => by
    have plain : ∀ {l : Env}, promo P r env O = (l, O') → e = (t, look env t) :: l → ∃ m', Ext m m' ∧ m'.w = m.w ∧ MR base w0 N0 m' O' ∧ ER m' e a := by
      intro l hl hel
      obtain ⟨m', h1, h2, h3, h4⟩ := promo_rel r hl hm he
      refine ⟨m', h1, h2, h3, fun k => ?_⟩
      rw [hel, look_cons]
      by_cases q : t = k
      · subst q; rw [if_pos rfl]; exact VR.keep h1 _ _ (he t)
      · rw [if_neg q]; exact h4 k
    simp only [promo] at h
    split at h
    · split at h
      · rename_i el _ c hc
        cases hn : isNilS (look env t) <;> simp only [hn, cond_true, cond_false] at h
        · exact plain (l := (promo P r env O).1) (by rw [← (Prod.mk.inj h).2]) (by rw [← (Prod.mk.inj h).1])
        · obtain ⟨aa, hv⟩ := isNilS_rel hn (he t)
          have hfree := hm.free 0
          simp only [Nat.add_zero] at hfree
          have hg : m.w.grownBy m.w none := ⟨rfl, rfl, rfl, Nat.le_refl _, fun _ _ _ => rfl⟩
          have hm1 := hm.grow [.row el c []] (by simp)
          have hnb : hblk (.slice aa 0 0) = none := by cases aa <;> rfl
          have hext := Mem.add_ext (h := .slice aa 0 0) hm hfree hg
          have hm2 := Mem.add_MR (h := .slice aa 0 0) (B := .row el c []) hm1 hfree hg (by rw [hnb]; simp) (by simp) ⟨[], ⟨aa, 0, rfl, by simp, .inl ⟨rfl, rfl⟩⟩, rfl⟩
          obtain ⟨m', h1, h2, h3, h4⟩ := promo_rel r (Prod.eta (promo P r env (O ++ [.row el c []]))).symm hm2 (he.keep hext)
          refine ⟨m', hext.trans h1, h2, ?_, fun k => ?_⟩
          · rw [← (Prod.mk.inj h).2]; exact h3
          · rw [← (Prod.mk.inj h).1, look_cons]
            by_cases q : t = k
            · subst q
              rw [if_pos rfl]
              refine VR.keep h1 _ _ ?_
              simp only [VR]
              rw [hv]
              exact .inr ⟨by simp [Mem.add], rfl⟩
            · rw [if_neg q]; exact h4 k
      · exact plain (l := (promo P r env O).1) (by rw [← (Prod.mk.inj h).2]) (by rw [← (Prod.mk.inj h).1])
    · exact plain (l := (promo P r env O).1) (by rw [← (Prod.mk.inj h).2]) (by rw [← (Prod.mk.inj h).1])

theorem promo_good {P : Program} {ts : List (Nat × Option TypeId)} {fr : Fr} {st : List Fr} {O O1 : Heap} {e : Env} {r : R} (h : promo P ts fr.env O = (e, O1)) (hg : Good C fin { fr with env := e } st O1 r) : Good C fin fr st O r := by
  refine Good.of hg rfl fun base w0 N0 m b ra a k' cs bot h1 h2 h3 h4 => ?_
  obtain ⟨m', q1, q2, q3, q4⟩ := promo_rel ts h h1 h2.er
  exact ⟨m', b, ra, a, k', cs, by rw [q2]; exact .refl _ _, q3, ⟨h2.fn, h2.kind, h2.defers, h2.nt, q4⟩, h3, h4.keep q1⟩

theorem canon_good {T : List Cut} {fr fr' : Fr} {st st' : List Fr} {O O' : Heap} {r : R} (h : canon C.P T fr st O = some (fr', st', O')) (hg : Good C fin fr' st' O' r) : Good C fin fr st O r := by
  unfold canon at h
  split at h
  · split at h
    · rename_i ts _
      cases hp : promo C.P ts fr.env O with
      | mk e O1 =>
        rw [hp] at h
        simp only at h
        cases hs : simpleH O1 <;> simp only [hs, cond_true, cond_false] at h
        · simp at h
          obtain ⟨rfl, rfl, rfl⟩ := h
          exact promo_good hp hg
        · exact promo_good hp (gc_good h hg)
    · simp at h
      obtain ⟨rfl, rfl, rfl⟩ := h
      exact hg
  · simp at h
    obtain ⟨rfl, rfl, rfl⟩ := h
    exact hg

theorem big_good (hC : C.OK) {T : List Cut} {fuel : Nat} : ∀ (k : Nat) (fr : Fr) (st : List Fr) (O : Heap) (r : R), big C T fin fuel k fr st O = some r → Good C fin fr st O r
  | 0, fr, st, O, r, h => by simp [big] at h
  | k + 1, fr, st, O, r, h => by
    rw [big] at h
    refine sim hC (fun fr st O r h => ?_) fuel fr st O r h
    split at h
    · rename_i fr' st' O' hc
      exact canon_good hc (big_good hC k _ _ _ _ h)
    · simp at h
end
end Go.AM
