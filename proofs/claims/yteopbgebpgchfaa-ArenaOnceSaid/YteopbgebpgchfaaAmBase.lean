/- DERIVED. NO CLAIM IN IT. Small laws on cells and data. -/
import Derived.Test.YteopbgebpgchfaaAmRel
set_option linter.unusedVariables false
set_option linter.unusedSimpArgs false
namespace Go.AM
open Go.RowKit

theorem VRL.len {m : Mem} : ∀ {ds : List DV} {vs : List Value}, VRL m ds vs → ds.length = vs.length
  | [], vs, h => by simp only [VRL] at h; simp [h]
  | d :: r, vs, h => by
    simp only [VRL] at h
    obtain ⟨v, vr, rfl, h2, h3⟩ := h
    simp [VRL.len h3]

theorem VRL.append {m : Mem} : ∀ {a b : List DV} {va vb : List Value}, VRL m a va → VRL m b vb → VRL m (a ++ b) (va ++ vb)
  | [], b, va, vb, h, k => by simp only [VRL] at h; subst h; exact k
  | d :: r, b, va, vb, h, k => by
    simp only [VRL] at h
    obtain ⟨v, vr, rfl, h2, h3⟩ := h
    simp only [List.cons_append, VRL]
    exact ⟨v, vr ++ vb, rfl, h2, VRL.append h3 k⟩

theorem VRL.take {m : Mem} : ∀ (n : Nat) {ds : List DV} {vs : List Value}, VRL m ds vs → VRL m (ds.take n) (vs.take n)
  | 0, _, _, _ => by simp [VRL]
  | n + 1, [], vs, h => by simp only [VRL] at h; subst h; simp [VRL]
  | n + 1, d :: r, vs, h => by
    simp only [VRL] at h
    obtain ⟨v, vr, rfl, h2, h3⟩ := h
    simp only [List.take_succ_cons, VRL]
    exact ⟨v, _, rfl, h2, VRL.take n h3⟩

theorem VRL.drop {m : Mem} : ∀ (n : Nat) {ds : List DV} {vs : List Value}, VRL m ds vs → VRL m (ds.drop n) (vs.drop n)
  | 0, _, _, h => by simpa using h
  | n + 1, [], vs, h => by simp only [VRL] at h; subst h; simp [VRL]
  | n + 1, d :: r, vs, h => by
    simp only [VRL] at h
    obtain ⟨v, vr, rfl, h2, h3⟩ := h
    simpa using VRL.drop n h3

theorem VRL.get {m : Mem} : ∀ {ds : List DV} {vs : List Value} (i : Nat) {d : DV}, VRL m ds vs → ds[i]? = some d → ∃ v, vs[i]? = some v ∧ VR m d v
  | [], _, _, _, _, h => by simp at h
  | d :: r, vs, 0, d', h, k => by
    simp only [VRL] at h
    obtain ⟨v, vr, rfl, h2, h3⟩ := h
    simp at k
    subst k
    exact ⟨v, by simp, h2⟩
  | d :: r, vs, i + 1, d', h, k => by
    simp only [VRL] at h
    obtain ⟨v, vr, rfl, h2, h3⟩ := h
    simp at k
    obtain ⟨v', h4, h5⟩ := VRL.get i h3 k
    exact ⟨v', by simpa using h4, h5⟩

theorem VRL.one {m : Mem} {d : DV} {v : Value} (h : VR m d v) : VRL m [d] [v] := by
  simp only [VRL]
  exact ⟨v, [], rfl, h, rfl⟩

theorem VRL.map {m : Mem} {α : Type} (f : α → DV) (g : α → Value) : ∀ (l : List α), (∀ x ∈ l, VR m (f x) (g x)) → VRL m (l.map f) (l.map g)
  | [], _ => by simp [VRL]
  | x :: r, h => by
    simp only [List.map_cons, VRL]
    exact ⟨_, _, rfl, h x (by simp), VRL.map f g r (fun y hy => h y (by simp [hy]))⟩

theorem dat_int {m : Mem} (k : IntKind) (n : Int) : VR m (.dat (.int k) n) (.int k n) := by
  simp only [VR]
  exact ⟨[.int k n], rfl, rfl, by simp, by simp⟩
theorem dat_bool {m : Mem} (b : Bool) : VR m (.dat .bool b) (.bool b) := by
  simp only [VR]
  exact ⟨[.bool b], rfl, rfl, by simp, by simp⟩
theorem dat_str {m : Mem} (s : ByteArray) : VR m (.dat .str s) (.string s) := by
  simp only [VR]
  exact ⟨[.string s], rfl, rfl, by simp, by simp⟩
theorem of_int {m : Mem} {k : IntKind} {n : Int} {v : Value} (h : VR m (.dat (.int k) n) v) : v = .int k n := by
  simp only [VR] at h
  obtain ⟨cs, h1, h2, _⟩ := h
  obtain rfl : cs = [.int k n] := h1
  simpa [valOf] using h2
theorem of_bool {m : Mem} {b : Bool} {v : Value} (h : VR m (.dat .bool b) v) : v = .bool b := by
  simp only [VR] at h
  obtain ⟨cs, h1, h2, _⟩ := h
  obtain rfl : cs = [.bool b] := h1
  simpa [valOf] using h2
theorem of_str {m : Mem} {s : ByteArray} {v : Value} (h : VR m (.dat .str s) v) : v = .string s := by
  simp only [VR] at h
  obtain ⟨cs, h1, h2, _⟩ := h
  obtain rfl : cs = [.string s] := h1
  simpa [valOf] using h2
theorem of_st {m : Mem} {f : Ty} {x : El (.st f)} {v : Value} (h : VR m (.dat (.st f) x) v) : ∃ cs, RepC m.N m.w f x cs ∧ v = .agg cs.toArray := by
  simp only [VR] at h
  obtain ⟨cs, h1, h2, _⟩ := h
  exact ⟨cs, h1, by simpa [valOf] using h2⟩
theorem dat_st {m : Mem} {f : Ty} {x : El f} {cs : List Value} (h : RepC m.N m.w f x cs) : VR m (.dat (.st f) x) (.agg cs.toArray) := by
  simp only [VR]
  exact ⟨cs, h, rfl, by simp, by simp⟩
theorem of_sl {m : Mem} {e : Ty} {xs : List (El e)} {v : Value} (h : VR m (.dat (.sl e) xs) v) : RepC m.N m.w (.sl e) xs [v] := by
  simp only [VR] at h
  obtain ⟨cs, h1, h2, _⟩ := h
  obtain ⟨a, len, cap, rfl, h4⟩ := h1
  simp [valOf] at h2
  subst h2
  exact ⟨a, len, cap, rfl, h4⟩
theorem dat_sl {m : Mem} {e : Ty} {xs : List (El e)} {v : Value} (h : RepC m.N m.w (.sl e) xs [v]) : VR m (.dat (.sl e) xs) v := by
  simp only [VR]
  exact ⟨[v], h, by simp [valOf], by simp, by simp⟩

theorem unp_rel {m : Mem} : ∀ (t : Ty) (x : El t) (cs : List Value), RepC m.N m.w t x cs → VRL m (unp t x) cs
  | .int k, x, cs, h => by obtain rfl := h; exact VRL.one (dat_int k x)
  | .bool, x, cs, h => by obtain rfl := h; exact VRL.one (dat_bool x)
  | .str, x, cs, h => by obtain rfl := h; exact VRL.one (dat_str x)
  | .sl e, x, cs, h => by
    have h' := h
    obtain ⟨a, len, cap, rfl, _⟩ := h
    exact VRL.one (dat_sl h')
  | .st f, x, cs, h => unp_rel f x cs h
  | .nil, x, cs, h => by obtain rfl := h; simp [unp, VRL]
  | .cons a b, x, cs, h => by
    obtain ⟨c1, c2, rfl, h2, h3⟩ := h
    simp only [unp]
    exact (unp_rel a _ c1 h2).append (unp_rel b _ c2 h3)

theorem unp_len : ∀ (t : Ty) (x : El t), (unp t x).length = csz t
  | .int _, _ => rfl
  | .bool, _ => rfl
  | .str, _ => rfl
  | .sl _, _ => rfl
  | .st f, x => unp_len f x
  | .nil, _ => rfl
  | .cons a b, x => by simp [unp, csz, unp_len a x.1, unp_len b x.2]

theorem castEl_some {a b : Ty} {x : El a} {y : El b} (h : castEl b x = some y) : ∃ e : a = b, e ▸ x = y := by
  unfold castEl at h
  split at h
  · rename_i e
    exact ⟨e, by simpa using h⟩
  · simp at h

theorem nilSl_rep (N : Nat → Prop) (w : World) (e : Ty) (a : Option Addr) : RepC N w (.sl e) [] [.slice a 0 0] :=
  ⟨a, 0, 0, rfl, rfl, Nat.le_refl _, Nat.zero_le _, .inl rfl⟩

/-- One cell. -/
theorem leaf_rel {m : Mem} {t : Ty} (ht : t = .bool ∨ t = .str ∨ (∃ k, t = .int k) ∨ ∃ e, t = .sl e) {d : DV} {x : El t} {v : Value} (h : leaf t d = some x) (hv : VR m d v) : RepC m.N m.w t x [v] := by
  cases d <;> simp only [leaf] at h
  case dat t' x' =>
    obtain ⟨rfl, rfl⟩ := castEl_some h
    rcases ht with rfl | rfl | ⟨k, rfl⟩ | ⟨e, rfl⟩
    · obtain rfl := of_bool hv; rfl
    · obtain rfl := of_str hv; rfl
    · obtain rfl := of_int hv; rfl
    · exact of_sl hv
  case raw u =>
    split at h
    · rename_i hq; simp at hq
    · rename_i hq
      simp only [DV.raw.injEq] at hq
      subst hq
      split at h
      · simp at h
        subst h
        simp only [VR] at hv
        subst hv
        exact nilSl_rep _ _ _ _
      · simp at h
    · rename_i hq; simp at hq
    · simp at h
  case e0 =>
    split at h
    · simp at h
      subst h
      simp only [VR] at hv
      obtain ⟨a, rfl⟩ := hv
      exact nilSl_rep _ _ _ _
    · simp at h
  all_goals simp at h

theorem pk_rel {m : Mem} : ∀ (t : Ty) (cs : List DV) (vs : List Value) (x : El t) (r : List DV), VRL m cs vs → pk t cs = some (x, r) →
    ∃ c1 c2, vs = c1 ++ c2 ∧ RepC m.N m.w t x c1 ∧ VRL m r c2
  | .int k, cs, vs, x, r, h, hp => by
    cases cs with
    | nil => simp [pk] at hp
    | cons d r' =>
      simp only [VRL] at h
      obtain ⟨v, vr, rfl, h2, h3⟩ := h
      simp only [pk] at hp
      split at hp
      · rename_i y hy
        simp at hp
        obtain ⟨rfl, rfl⟩ := hp
        exact ⟨[v], vr, rfl, leaf_rel (.inr (.inr (.inl ⟨k, rfl⟩))) hy h2, h3⟩
      · simp at hp
  | .bool, cs, vs, x, r, h, hp => by
    cases cs with
    | nil => simp [pk] at hp
    | cons d r' =>
      simp only [VRL] at h
      obtain ⟨v, vr, rfl, h2, h3⟩ := h
      simp only [pk] at hp
      split at hp
      · rename_i y hy
        simp at hp
        obtain ⟨rfl, rfl⟩ := hp
        exact ⟨[v], vr, rfl, leaf_rel (.inl rfl) hy h2, h3⟩
      · simp at hp
  | .str, cs, vs, x, r, h, hp => by
    cases cs with
    | nil => simp [pk] at hp
    | cons d r' =>
      simp only [VRL] at h
      obtain ⟨v, vr, rfl, h2, h3⟩ := h
      simp only [pk] at hp
      split at hp
      · rename_i y hy
        simp at hp
        obtain ⟨rfl, rfl⟩ := hp
        exact ⟨[v], vr, rfl, leaf_rel (.inr (.inl rfl)) hy h2, h3⟩
      · simp at hp
  | .sl e, cs, vs, x, r, h, hp => by
    cases cs with
    | nil => simp [pk] at hp
    | cons d r' =>
      simp only [VRL] at h
      obtain ⟨v, vr, rfl, h2, h3⟩ := h
      simp only [pk] at hp
      split at hp
      · rename_i y hy
        simp at hp
        obtain ⟨rfl, rfl⟩ := hp
        exact ⟨[v], vr, rfl, leaf_rel (.inr (.inr (.inr ⟨e, rfl⟩))) hy h2, h3⟩
      · simp at hp
  | .st f, cs, vs, x, r, h, hp => by
    simp only [pk] at hp
    exact pk_rel f cs vs x r h hp
  | .nil, cs, vs, x, r, h, hp => by
    simp [pk] at hp
    obtain ⟨_, rfl⟩ := hp
    exact ⟨[], vs, rfl, rfl, h⟩
  | .cons a b, cs, vs, x, r, h, hp => by
    simp only [pk] at hp
    split at hp
    · rename_i y r1 h1
      split at hp
      · rename_i z r2 h2
        simp at hp
        obtain ⟨rfl, rfl⟩ := hp
        obtain ⟨c1, c2, rfl, k1, k2⟩ := pk_rel a cs vs y r1 h h1
        obtain ⟨c3, c4, rfl, k3, k4⟩ := pk_rel b r1 c2 z r2 k2 h2
        exact ⟨c1 ++ c3, c4, by simp, ⟨c1, c3, rfl, k1, k3⟩, k4⟩
      · simp at hp
    · simp at hp

theorem pack_rel {m : Mem} {t : Ty} {cs : List DV} {vs : List Value} {x : El t} (h : VRL m cs vs) (hp : pack t cs = some x) : RepC m.N m.w t x vs := by
  unfold pack at hp
  split at hp
  · rename_i y hy
    simp at hp
    subst hp
    obtain ⟨c1, c2, rfl, h1, h2⟩ := pk_rel t cs vs y [] h hy
    simp only [VRL] at h2
    subst h2
    simpa using h1
  · simp at hp

theorem cells_one {v : Value} (h : oneV v = true) : v.cells = #[v] := by
  cases v <;> simp_all [oneV, Value.cells]

/-- A value's cells. -/
theorem cellsOf_rel {m : Mem} {d : DV} {v : Value} (hu : isUn d = false) (h : VR m d v) : VRL m (cellsOf d) v.cells.toList := by
  have one : ∀ {d : DV} {v : Value}, VR m d v → oneV v = true → VRL m [d] v.cells.toList := fun h k => by
    rw [cells_one k]; exact VRL.one h
  cases d with
  | un => simp [isUn] at hu
  | dat t x =>
    have h0 := h
    simp only [VR] at h
    obtain ⟨cs, h1, h2, hn, hc⟩ := h
    cases t with
    | nil => exact (hn rfl).elim
    | cons a b => exact (hc a b rfl).elim
    | st f =>
      subst h2
      simp only [cellsOf, valOf, Value.cells]
      simpa using unp_rel f x cs h1
    | int k => have := of_int h0; subst this; exact one h0 rfl
    | bool => have := of_bool h0; subst this; exact one h0 rfl
    | str => have := of_str h0; subst this; exact one h0 rfl
    | sl e =>
      obtain ⟨a, len, cap, rfl, _⟩ := h1
      simp only [valOf, List.headD_cons] at h2
      subst h2
      exact one h0 rfl
  | raw u =>
    have h0 := h
    simp only [VR] at h
    subst h
    simp [isUn] at hu
    exact one h0 hu
  | ptr n off =>
    have h0 := h
    simp only [VR] at h
    rcases h with h | ⟨b, _, rfl⟩
    · exact one h0 h.2
    · exact one h0 rfl
  | fp t x off =>
    have h0 := h
    simp only [VR] at h
    obtain ⟨b, o, cs, _, _, _, rfl⟩ := h
    exact one h0 rfl
  | ep n sz i off =>
    have h0 := h
    simp only [VR] at h
    rcases h with h | ⟨b, _, _, _, _, _, rfl⟩
    · exact one h0 h.2
    · exact one h0 rfl
  | sl n =>
    have h0 := h
    simp only [VR] at h
    exact one h0 (h.elim (·.2) (·.2))
  | sw n sz lo hi =>
    have h0 := h
    simp only [VR] at h
    rcases h with h | ⟨_, _, _, _, _, _, rfl, _⟩
    · exact one h0 h.2
    · exact one h0 rfl
  | e0 =>
    have h0 := h
    simp only [VR] at h
    obtain ⟨a, rfl⟩ := h
    exact one h0 rfl
  | mp n =>
    have h0 := h
    simp only [VR] at h
    exact one h0 (h.elim (·.2) (·.2))
  | agg cs =>
    simp only [VR] at h
    obtain ⟨vs, rfl, h2⟩ := h
    simpa [cellsOf, Value.cells] using h2
  | ifc t d =>
    have h0 := h
    simp only [VR] at h
    obtain ⟨u, rfl, _⟩ := h
    exact one h0 rfl
  | clo f a b =>
    have h0 := h
    simp only [VR] at h
    obtain ⟨_, _, rfl, _⟩ := h
    exact one h0 rfl
  | ub =>
    have h0 := h
    simp only [VR] at h
    obtain ⟨_, rfl⟩ := h
    exact one h0 rfl
  | tup ds => simp [isUn] at hu

theorem sized_rel {m : Mem} {d : DV} {v : Value} {n : Nat} (hs : sized d n = true) (h : VR m d v) : VRL m (cellsOf d) v.cells.toList ∧ (cellsOf d).length = n ∧ v.cells.size = n := by
  simp only [sized, Bool.and_eq_true, Bool.not_eq_true'] at hs
  have h1 := cellsOf_rel hs.1 h
  have h2 : (cellsOf d).length = n := Nat.eq_of_beq_eq_true hs.2
  exact ⟨h1, h2, by have := h1.len; simp at this; omega⟩

theorem leaf_st {f : Ty} {d : DV} (hd : ∀ t' x', d ≠ .dat t' x') : leaf (.st f) d = none := by
  cases d with
  | dat t' x' => exact (hd t' x' rfl).elim
  | raw u =>
    simp only [leaf]
    split <;> first | rfl | (rename_i h; simp at h)
  | _ => rfl

theorem toEl_rel {m : Mem} {t : Ty} (hn : t ≠ .nil) (hc : ∀ a b, t ≠ .cons a b) {d : DV} {x : El t} {v : Value} (h : toEl t d = some x) (hv : VR m d v) : VR m (.dat t x) v := by
  have leaf' : ∀ {d : DV}, leaf t d = some x → VR m d v → (∀ t' x', d ≠ .dat t' x') → VR m (.dat t x) v := by
    intro d h hv hd
    cases t with
    | nil => exact (hn rfl).elim
    | cons a b => exact (hc a b rfl).elim
    | st f => rw [leaf_st hd] at h; simp at h
    | int k => have h1 := leaf_rel (.inr (.inr (.inl ⟨k, rfl⟩))) h hv; simp only [RepC, List.cons.injEq, and_true] at h1; subst h1; exact dat_int k x
    | bool => have h1 := leaf_rel (.inl rfl) h hv; simp only [RepC, List.cons.injEq, and_true] at h1; subst h1; exact dat_bool x
    | str => have h1 := leaf_rel (.inr (.inl rfl)) h hv; simp only [RepC, List.cons.injEq, and_true] at h1; subst h1; exact dat_str x
    | sl e => exact dat_sl (leaf_rel (.inr (.inr (.inr ⟨e, rfl⟩))) h hv)
  cases d with
  | dat t' x' =>
    simp only [toEl] at h
    obtain ⟨rfl, rfl⟩ := castEl_some h
    exact hv
  | agg cs =>
    simp only [toEl] at h
    cases t with
    | st f =>
      simp only at h
      simp only [VR] at hv
      obtain ⟨vs, rfl, h2⟩ := hv
      have := pack_rel h2 h
      simpa using dat_st this
    | _ => simp at h
  | _ => simp only [toEl] at h; exact leaf' h hv (by simp)

theorem mkAgg_rel {m : Mem} (P : Program) (t : TypeId) {cs : List DV} {vs : Array Value} (h : VRL m cs vs.toList) : VR m (mkAgg P t cs) (.agg vs) := by
  unfold mkAgg
  split
  · split
    · rename_i x hx
      simpa using dat_st (pack_rel h hx)
    · simp only [VR]; exact ⟨vs, rfl, h⟩
  · simp only [VR]; exact ⟨vs, rfl, h⟩

theorem ofConst_rel (m : Mem) (v : Value) : VR m (ofConst v) v := by
  cases v <;> simp only [ofConst] <;> first
    | exact dat_int _ _
    | exact dat_bool _
    | exact dat_str _
    | (simp only [VR])

theorem zeroCells_rel (m : Mem) {P : Program} {t : TypeId} {z : Value} (h : (P.info? t).bind (·.zero) = some z) : VRL m (zeroCells P t) z.cells.toList := by
  unfold zeroCells
  rw [h]
  have := VRL.map (m := m) ofConst id z.cells.toList (fun x _ => ofConst_rel m x)
  simpa using this

/-- What the operands are. -/
def ER (m : Mem) (env : Env) (a : Act) : Prop := ∀ t, VR m (look env t) (a.tmps.getD t undef)

theorem opd_rel {m : Mem} {env : Env} {a : Act} (h : ER m env a) (x : Operand) : VR m (opd env x) (a.eval x) := by
  cases x with
  | tmp t => exact h t
  | const v => exact ofConst_rel m v
  | global g => simp only [opd, VR, Act.eval]
  | func f => simp only [opd, VR, Act.eval]

theorem ER.keep {m m' : Mem} {env : Env} {a : Act} (h : ER m env a) (k : Ext m m') : ER m' env a := fun t => VR.keep k _ _ (h t)

theorem look_cons (k : Nat) (d : DV) (env : Env) (t : Nat) : look ((k, d) :: env) t = if k = t then d else look env t := by
  by_cases h : k = t
  · subst h; simp [look, Nat.beq_refl]
  · have : Nat.beq k t = false := by
      cases hb : Nat.beq k t
      · rfl
      · exact absurd (Nat.eq_of_beq_eq_true hb) h
    simp [look, this, h]

theorem ER.put {m : Mem} {env : Env} {a : Act} (h : ER m env a) {dst : Option Nat} {nt : Nat} (hd : dstOk dst nt = true) (hn : nt ≤ a.tmps.size) {d : DV} {v : Value} (hv : VR m d v) :
    ER m (putD dst d env) (a.put dst v) := by
  cases dst with
  | none => exact h
  | some k =>
    intro t
    simp only [dstOk, Nat.blt_eq] at hd
    simp only [putD, Act.put, look_cons]
    by_cases e : k = t
    · subst e
      simpa [show k < a.tmps.size by omega] using hv
    · rw [if_neg e]
      have := h t
      simpa [Array.getD_eq_getD_getElem?, Array.getElem?_setIfInBounds, e] using this

/-- A test's outcome, known. -/
theorem ER.know {m : Mem} {env : Env} {a : Act} (h : ER m env a) {t : Nat} {b : Bool} (hb : look env t = .dat .bool b) : ER m ((t, .dat .bool b) :: env) a := by
  intro k
  rw [look_cons]
  by_cases e : t = k
  · subst e; rw [if_pos rfl]; have := h t; rwa [hb] at this
  · rw [if_neg e]; exact h k

theorem ER.knows {m : Mem} {env : Env} {a : Act} (h : ER m env a) {t : Nat} {b : Bool} (hb : a.tmps.getD t undef = .bool b) : ER m ((t, .dat .bool b) :: env) a := by
  intro k
  rw [look_cons]
  by_cases e : t = k
  · subst e; rw [if_pos rfl, hb]; exact dat_bool b
  · rw [if_neg e]; exact h k

theorem RowRep.len {N : Nat → Prop} {w : World} {t : Ty} : ∀ {xs : List (El t)} {cs : List Value}, RowRep N w t xs cs → cs.length = xs.length * csz t
  | [], cs, h => by simp only [RowRep] at h; subst h; simp
  | x :: r, cs, h => by
    obtain ⟨c1, c2, rfl, h2, h3⟩ := h
    simp [RepC.len t x c1 h2, RowRep.len h3, Nat.add_mul, Nat.add_comm]

theorem RowRep.at_ {N : Nat → Prop} {w : World} {t : Ty} : ∀ {xs : List (El t)} {cs : List Value} (i : Nat) {x : El t}, RowRep N w t xs cs → xs[i]? = some x →
    ∃ a ecs b, cs = a ++ (ecs ++ b) ∧ a.length = i * csz t ∧ RepC N w t x ecs
  | [], _, i, x, _, h => by simp at h
  | y :: r, cs, 0, x, h, k => by
    obtain ⟨c1, c2, rfl, h2, h3⟩ := h
    simp at k
    subst k
    exact ⟨[], c1, c2, by simp, by simp, h2⟩
  | y :: r, cs, i + 1, x, h, k => by
    obtain ⟨c1, c2, rfl, h2, h3⟩ := h
    simp at k
    obtain ⟨a, ecs, b, rfl, h5, h6⟩ := RowRep.at_ i h3 k
    exact ⟨c1 ++ a, ecs, b, by simp, by simp [RepC.len t y c1 h2, h5, Nat.add_mul, Nat.add_comm], h6⟩

theorem RowRep.append {N : Nat → Prop} {w : World} {t : Ty} : ∀ {xs ys : List (El t)} {a b : List Value}, RowRep N w t xs a → RowRep N w t ys b → RowRep N w t (xs ++ ys) (a ++ b)
  | [], ys, a, b, h, k => by simp only [RowRep] at h; subst h; exact k
  | x :: r, ys, a, b, h, k => by
    obtain ⟨c1, c2, rfl, h2, h3⟩ := h
    exact ⟨c1, c2 ++ b, by simp, h2, RowRep.append h3 k⟩

theorem RowRep.take {N : Nat → Prop} {w : World} {t : Ty} : ∀ (n : Nat) {xs : List (El t)} {a : List Value}, RowRep N w t xs a → RowRep N w t (xs.take n) (a.take (n * csz t))
  | 0, _, _, _ => by simp [RowRep]
  | n + 1, [], a, h => by simp only [RowRep] at h; subst h; simp [RowRep]
  | n + 1, x :: r, a, h => by
    obtain ⟨c1, c2, rfl, h2, h3⟩ := h
    have := RepC.len t x c1 h2
    refine ⟨c1, c2.take (n * csz t), ?_, h2, RowRep.take n h3⟩
    rw [List.take_append, List.take_of_length_le (by simp [this, Nat.add_mul]), this]
    congr 2
    simp [Nat.add_mul]

theorem RowRep.drop {N : Nat → Prop} {w : World} {t : Ty} : ∀ (n : Nat) {xs : List (El t)} {a : List Value}, RowRep N w t xs a → RowRep N w t (xs.drop n) (a.drop (n * csz t))
  | 0, _, _, h => by simpa using h
  | n + 1, [], a, h => by simp only [RowRep] at h; subst h; simp [RowRep]
  | n + 1, x :: r, a, h => by
    obtain ⟨c1, c2, rfl, h2, h3⟩ := h
    have := RepC.len t x c1 h2
    have e : (n + 1) * csz t = c1.length + n * csz t := by rw [this, Nat.add_mul]; omega
    have e2 : (c1 ++ c2).drop (c1.length + n * csz t) = c2.drop (n * csz t) := by simp [List.drop_append]
    rw [e, e2]
    simpa using RowRep.drop n h3

theorem rd_get {α : Type} {z : α} {xs : List α} {i : Int} (h : ins xs i = true) : 0 ≤ i ∧ i < xs.length ∧ xs[i.toNat]? = some (rd z xs i) := by
  simp [ins] at h
  have hl : i.toNat < xs.length := by omega
  refine ⟨h.1, by omega, ?_⟩
  simp [rd, hl]

theorem rd_get' {α : Type} {z : α} {xs : List α} {i : Int} (h0 : 0 ≤ i) (h1 : i < xs.length) : xs[i.toNat]? = some (rd z xs i) := by
  have hl : i.toNat < xs.length := by omega
  simp [rd, hl]
end Go.AM
