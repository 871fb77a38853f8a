/- DERIVED. NO CLAIM IN IT. The orders in which a region may be done. -/
import Derived.Test.YteopbgebpgchfaaAmStep
import Derived.Orders
set_option linter.unusedVariables false
set_option linter.unusedSimpArgs false
namespace Go.AM

/-- What has been done draws what comes ahead of it with it. -/
def Closed (ops : Array Oper) (S : Nat → Prop) : Prop := ∀ (j : Nat) (o : Oper) (e : Edge), ops[j]? = some o → S j → e ∈ o.after → Region.binds .any e = true → S e.on

theorem testBit_lor (a b i : Nat) : (Nat.lor a b).testBit i = (a.testBit i || b.testBit i) := Nat.testBit_or a b i

theorem testBit_one (k i : Nat) (h : (Nat.shiftLeft 1 k).testBit i = true) : i = k := by
  have h : (1 <<< k).testBit i = true := h
  rw [Nat.one_shiftLeft, Nat.testBit_two_pow] at h
  simpa [eq_comm] using h

theorem bits_spec (acc : List Nat) (i : Nat) : ∀ (l : List Edge) (s : Nat), (l.foldl (fun s e => bif Region.binds .any e then Nat.lor (Nat.lor s (Nat.shiftLeft 1 e.on)) (acc.getD e.on 0) else s) s).testBit i = true →
    s.testBit i = true ∨ ∃ e ∈ l, Region.binds .any e = true ∧ (i = e.on ∨ (acc.getD e.on 0).testBit i = true)
  | [], s, h => .inl h
  | e :: l, s, h => by
    simp only [List.foldl_cons] at h
    rcases bits_spec acc i l _ h with h | ⟨e', he, h⟩
    · cases hb : Region.binds .any e <;> simp only [hb, cond_true, cond_false] at h
      · exact .inl h
      · rw [testBit_lor, testBit_lor] at h
        simp only [Bool.or_eq_true] at h
        rcases h with (h | h) | h
        · exact .inl h
        · exact .inr ⟨e, by simp, hb, .inl (testBit_one _ _ h)⟩
        · exact .inr ⟨e, by simp, hb, .inr h⟩
    · exact .inr ⟨e', by simp [he], h⟩

theorem befL_spec {ops : Array Oper} {S : Nat → Prop} (hS : Closed ops S) : ∀ (l : List Oper) (acc : List Nat), (∀ k, k < l.length → ops[acc.length + k]? = l[k]?) →
    (∀ j i, (acc.getD j 0).testBit i = true → S j → S i) → ∀ j i, ((befL l acc).getD j 0).testBit i = true → S j → S i
  | [], acc, _, ha, j, i, h, hj => ha j i h hj
  | o :: r, acc, hl, ha, j, i, h, hj => by
    refine befL_spec hS r (acc ++ [befBits o acc]) (fun k hk => ?_) (fun j i h hj => ?_) j i h hj
    · have := hl (k + 1) (by simp; omega)
      simpa [Nat.add_assoc, Nat.add_comm 1 k] using this
    · rcases Nat.lt_trichotomy j acc.length with q | q | q
      · rw [List.getD_eq_getElem?_getD, List.getElem?_append_left q, ← List.getD_eq_getElem?_getD] at h
        exact ha j i h hj
      · subst q
        simp at h
        have ho : ops[acc.length]? = some o := by simpa using hl 0 (by simp)
        rcases bits_spec acc i _ _ h with h | ⟨e, he, hb, h⟩
        · simp at h
        · have hon := hS _ o e ho hj (by simpa using he) hb
          rcases h with rfl | h
          · exact hon
          · exact ha _ _ h hon
      · rw [List.getD_eq_getElem?_getD, List.getElem?_eq_none (by simp; omega)] at h
        simp at h

theorem ahead_spec {ops : Array Oper} {S : Nat → Prop} (hS : Closed ops S) {i j : Nat} (h : ahead ops i j = true) (hj : S j) : S i :=
  befL_spec hS ops.toList [] (by simp) (by simp) j i h hj

/-- A list that does all that is left, in an order that is allowed. -/
def Ord (ops : Array Oper) : (Nat → Prop) → List Nat → Prop
  | S, [] => ∀ j, j < ops.size → S j
  | S, i :: r => i < ops.size ∧ ¬ S i ∧ (∀ o, ops[i]? = some o → ∀ e ∈ o.after, Region.binds .any e = true → S e.on) ∧ Ord ops (fun j => S j ∨ j = i) r

theorem Ord.congr {ops : Array Oper} : ∀ {r : List Nat} {S T : Nat → Prop}, (∀ j, S j ↔ T j) → Ord ops S r → Ord ops T r
  | [], S, T, h, q => fun j hj => (h j).1 (q j hj)
  | i :: r, S, T, h, ⟨q1, q2, q3, q4⟩ => ⟨q1, fun k => q2 ((h i).2 k), fun o ho e he hb => (h _).1 (q3 o ho e he hb), Ord.congr (fun j => by rw [h j]) q4⟩

theorem Closed.add {ops : Array Oper} {S : Nat → Prop} (h : Closed ops S) {i : Nat} (hi : ∀ o, ops[i]? = some o → ∀ e ∈ o.after, Region.binds .any e = true → S e.on) : Closed ops (fun j => S j ∨ j = i) := by
  intro j o e ho hj he hb
  rcases hj with hj | rfl
  · exact .inl (h j o e ho hj he hb)
  · exact .inl (hi o ho e he hb)

/-- Edges lead back. -/
def Back (ops : Array Oper) : Prop := ∀ (j : Nat) (o : Oper) (e : Edge), ops[j]? = some o → e ∈ o.after → Region.binds .any e = true → e.on < j

theorem exists_min {p : Nat → Prop} : ∀ n, (∃ j, j < n ∧ p j) → ∃ j, j < n ∧ p j ∧ ∀ i, i < j → ¬ p i
  | 0, ⟨j, h, _⟩ => by omega
  | n + 1, ⟨j, h, hp⟩ => by
    by_cases q : ∃ j, j < n ∧ p j
    · obtain ⟨k, h1, h2, h3⟩ := exists_min n q
      exact ⟨k, by omega, h2, h3⟩
    · have : j = n := by
        by_cases e : j < n
        · exact (q ⟨j, e, hp⟩).elim
        · omega
      subst this
      exact ⟨j, by omega, hp, fun i hi hpi => q ⟨i, hi, hpi⟩⟩

theorem ready_min {ops : Array Oper} (hb : Back ops) {l : Array Bool} (hl : l.size = ops.size) (h : ∃ j, j < ops.size ∧ l.getD j false = false) : Region.ready .any ops l ≠ [] := by
  obtain ⟨j, h1, h2, h3⟩ := exists_min (p := fun j => l.getD j false = false) _ h
  have : j ∈ Region.ready .any ops l := by
    rw [mem_ready]
    have hj : j < l.size := by omega
    refine ⟨by simpa [hj] using h2, ops[j], by simp [h1], fun e he hbi => ?_⟩
    have hlt := hb j ops[j] e (by simp [h1]) he hbi
    have := h3 e.on hlt
    simpa using this
  intro e
  rw [e] at this
  simp at this

theorem count_set_true : ∀ (l : List Bool) (i : Nat), l[i]? = some false → (l.set i true).count false + 1 = l.count false
  | [], i, h => by simp at h
  | b :: r, 0, h => by simp at h; subst h; simp
  | b :: r, i + 1, h => by
    have := count_set_true r i (by simpa using h)
    simp only [List.set_cons_succ, List.count_cons]
    omega

theorem ord_lin {ops : Array Oper} (hb : Back ops) : ∀ (f t : Nat) (l : Array Bool), l.size = ops.size → l.toList.count false ≤ f → Ord ops (fun j => l.getD j false = true) (Region.linearise.go .any ops f t l [])
  | 0, t, l, hl, hc => by
    intro j hj
    have : l.toList.count false = 0 := by omega
    rw [List.count_eq_zero] at this
    have hjl : j < l.size := by omega
    have : l[j] ≠ false := fun e => this (by rw [← e]; simp)
    simpa [hjl] using this
  | f + 1, t, l, hl, hc => by
    simp only [Region.linearise.go]
    change Ord ops _ (match (Region.ready .any ops l)[t % (Region.ready .any ops l).length]? with
      | some i => Region.linearise.go .any ops f (t / (Region.ready .any ops l).length) (l.setIfInBounds i true) [i]
      | none => [].reverse)
    cases hi : (Region.ready .any ops l)[t % (Region.ready .any ops l).length]? with
    | none =>
      have hnil : Region.ready .any ops l = [] := by
        cases hr : Region.ready .any ops l with
        | nil => rfl
        | cons x xs =>
          rw [hr] at hi
          have hlt : t % (x :: xs).length < (x :: xs).length := Nat.mod_lt _ (by simp)
          simp at hi
          simp at hlt
          omega
      intro j hj
      cases hh : l.getD j false with
      | true => rfl
      | false => exact (ready_min hb hl ⟨j, hj, hh⟩ hnil).elim
    | some i =>
      simp only []
      rw [linearise_go_acc, List.reverse_singleton, List.singleton_append]
      have hmem := List.mem_of_getElem? hi
      obtain ⟨h1, o, ho, h2⟩ := mem_ready.1 hmem
      have hlt : i < ops.size := (Array.getElem?_eq_some_iff.1 ho).1
      have hil : i < l.size := by omega
      have hli : l[i] = false := by simpa [hil] using h1
      refine ⟨hlt, by simp [hil, hli], fun o' ho' e he hbi => ?_, ?_⟩
      · rw [ho] at ho'
        simp at ho'
        subst ho'
        exact h2 e he hbi
      · refine Ord.congr (fun j => ?_) (ord_lin hb f _ (l.setIfInBounds i true) (by simpa using hl) ?_)
        · by_cases e : i = j
          · subst e; simp [hil]
          · simp [Array.getElem?_setIfInBounds_ne e]; omega
        · have := count_set_true l.toList i (by simp [hil, hli])
          simp only [Array.toList_setIfInBounds]
          omega

theorem ord_schedule {ops : Array Oper} (hb : Back ops) (t : Nat) : Ord ops (fun _ => False) (Region.schedule true ops t) := by
  simp only [Region.schedule, Bool.true_or, if_true, Region.linearise]
  refine Ord.congr (fun j => ?_) (ord_lin hb ops.size t (Array.replicate ops.size false) (by simp) ?_)
  · by_cases h : j < ops.size <;> simp [h]
  · simp [List.count_replicate]

theorem regOk_back {ops : Array Oper} (h : regOk ops = true) : Back ops := by
  intro j o e ho he hb
  have hj : j < ops.size := (Array.getElem?_eq_some_iff.1 ho).1
  simp only [regOk, List.all_eq_true, List.mem_range, Bool.and_eq_true] at h
  have := (h j hj).1 e (by simp [ho, he])
  simp only [hb, Bool.not_true, Bool.false_or, Nat.blt_eq] at this
  exact this

theorem regOk_disj {ops : Array Oper} (h : regOk ops = true) {i j : Nat} {x y : Oper} (hij : i < j) (hi : ops[i]? = some x) (hj : ops[j]? = some y) : ahead ops i j = true ∨ disj x y ops = true := by
  have hlt : j < ops.size := (Array.getElem?_eq_some_iff.1 hj).1
  simp only [regOk, List.all_eq_true, List.mem_range, Bool.and_eq_true] at h
  have := (h j hlt).2 i hij
  simp only [Bool.or_eq_true] at this
  rcases this with q | q
  · exact .inl q
  · exact .inr (by simpa [hi, hj] using q)

theorem pinned_lo {ops : Array Oper} {i j : Nat} (h : pinned ops j = true) (hij : i < j) : ahead ops i j = true := by
  simp only [pinned, Bool.and_eq_true, List.all_eq_true, List.mem_range] at h
  exact h.1 i hij

theorem pinned_hi {ops : Array Oper} {j k : Nat} (h : pinned ops j = true) (hjk : j < k) (hk : k < ops.size) : ahead ops j k = true := by
  simp only [pinned, Bool.and_eq_true, List.all_eq_true, List.mem_range, Bool.or_eq_true] at h
  rcases h.2 k hk with q | q
  · have := Nat.le_of_ble_eq_true q; omega
  · exact q

/-- What is ahead of one that is next has been done. -/
theorem ahead_next {ops : Array Oper} {S : Nat → Prop} (hS : Closed ops S) {i j : Nat} (hij : i ≠ j) (hj : ∀ o, ops[j]? = some o → ∀ e ∈ o.after, Region.binds .any e = true → S e.on) (h : ahead ops i j = true) : S i := by
  rcases ahead_spec (hS.add hj) h (.inr rfl) with q | q
  · exact q
  · exact (hij q).elim

theorem quasi_lo {ops : Array Oper} {i j : Nat} (h : quasi ops j = true) (hij : i < j) : ahead ops i j = true ∨ floatOp ops i = true := by
  simp only [quasi, Bool.and_eq_true, List.all_eq_true, List.mem_range, Bool.or_eq_true] at h
  exact h.1 i hij

theorem quasi_hi {ops : Array Oper} {j k : Nat} (h : quasi ops j = true) (hjk : j < k) (hk : k < ops.size) : ahead ops j k = true := by
  simp only [quasi, Bool.and_eq_true, List.all_eq_true, List.mem_range, Bool.or_eq_true] at h
  rcases h.2 k hk with q | q
  · have := Nat.le_of_ble_eq_true q; omega
  · exact q

theorem pinned_quasi {ops : Array Oper} {j : Nat} (h : pinned ops j = true) : quasi ops j = true := by
  simp only [pinned, quasi, Bool.and_eq_true, List.all_eq_true, List.mem_range, Bool.or_eq_true] at h ⊢
  exact ⟨fun i hi => .inl (h.1 i hi), h.2⟩

theorem tailQ_quasi {ops : Array Oper} {i k : Nat} (h : tailQ ops i = true) (hik : i ≤ k) (hk : k < ops.size) : quasi ops k = true := by
  simp only [tailQ, List.all_eq_true, List.mem_range, Bool.or_eq_true, Nat.blt_eq] at h
  rcases h k hk with q | q
  · omega
  · exact q

theorem tailQ_succ {ops : Array Oper} {i : Nat} (h : tailQ ops i = true) : tailQ ops (i + 1) = true := by
  simp only [tailQ, List.all_eq_true, List.mem_range, Bool.or_eq_true, Nat.blt_eq] at h ⊢
  intro k hk
  rcases h k hk with q | q
  · exact .inl (by omega)
  · exact .inr q

theorem fixed_quasi {ops : Array Oper} {i : Nat} (h : fixed ops i = true) (hi : i < ops.size) : quasi ops i = true := by
  simp only [fixed, Bool.or_eq_true] at h
  rcases h with h | h
  · exact pinned_quasi h
  · exact tailQ_quasi h (Nat.le_refl _) hi

theorem float_get {ops : Array Oper} {l : Nat} (h : floatOp ops l = true) : ∃ o x d, ops[l]? = some o ∧ fsrc o.op = some x ∧ o.dst = some d ∧ o.guard = none ∧ x ≠ .tmp d ∧
    ∀ (k : Nat) (q : Oper), k ≠ l → ops[k]? = some q → q.dst ≠ some d ∧ ∀ t, x = .tmp t → q.dst = some t → k < l ∨ (l < k ∧ ahead ops l k = true ∧ fsrc q.op = none) := by
  unfold floatOp at h
  split at h
  · rename_i o ho
    split at h
    · rename_i x d hx hd
      simp only [Bool.and_eq_true, Option.isNone_iff_eq_none, List.all_eq_true, List.mem_range] at h
      refine ⟨o, x, d, ho, hx, hd, h.1.1, ?_, fun k q hk hq => ?_⟩
      · rintro rfl
        have := h.1.2
        simp [Nat.beq_refl] at this
      have hlt : k < ops.size := (Array.getElem?_eq_some_iff.1 hq).1
      have := h.2 k hlt
      have hb : Nat.beq k l = false := by
        cases hb : Nat.beq k l
        · rfl
        · exact (hk (Nat.eq_of_beq_eq_true hb)).elim
      rw [hb, hq] at this
      simp only [Bool.false_or, Bool.and_eq_true] at this
      refine ⟨?_, ?_⟩
      · have := this.1; simpa using this
      · rintro t rfl ht
        have := this.2
        simp only [Bool.or_eq_true] at this
        rcases this with (this | this) | this
        · rw [ht] at this; simp at this
        · exact .inl (by simpa only [Nat.blt_eq] using this)
        · simp only [Bool.and_eq_true, Nat.blt_eq, Option.isNone_iff_eq_none] at this
          exact .inr ⟨this.1.1, this.1.2, this.2⟩
    · simp at h
  · simp at h

/-- What such an operation gives. -/
def fval : Op → Value → Option Value
  | .move _, v => some v
  | .extract _ j, v => (match v with
    | .tuple vs => vs[j]?
    | _ => none)
  | _, _ => none

theorem fval_run {P : Program} {o : Oper} {x : Operand} {eval : Operand → Value} {v : Value} {w : World} (h : fsrc o.op = some x) (hv : fval o.op (eval x) = some v) : (execOp eval o).run P w = .ok (.value v) w := by
  unfold fsrc at h
  split at h
  · rename_i y hop
    simp at h
    subst h
    rw [hop] at hv
    simp only [fval, Option.some.injEq] at hv
    simp [execOp, hop, hv]
  · rename_i y j hop
    simp at h
    subst h
    rw [hop] at hv
    simp only [fval] at hv
    split at hv
    · rename_i vs hvs
      simp [execOp, hop, hvs, Instr.extract, hv]
    · simp at hv
  · simp at h

theorem Ord.not_mem {ops : Array Oper} : ∀ {r : List Nat} {S : Nat → Prop}, Ord ops S r → ∀ x ∈ r, ¬ S x
  | [], S, _, x, h => by simp at h
  | i :: r, S, ⟨_, q2, _, q4⟩, x, h => by
    rcases List.mem_cons.1 h with rfl | h
    · exact q2
    · exact fun hs => Ord.not_mem q4 x h (.inl hs)

theorem Ord.fresh {ops : Array Oper} {i : Nat} {r : List Nat} {S : Nat → Prop} (h : Ord ops S (i :: r)) : i ∉ r := fun hm => Ord.not_mem h.2.2.2 i hm (.inr rfl)
end Go.AM
