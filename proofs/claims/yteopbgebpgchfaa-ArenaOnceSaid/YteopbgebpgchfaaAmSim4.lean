/- DERIVED. NO CLAIM IN IT. The plain machine's runs are the model's. -/
import Derived.Test.YteopbgebpgchfaaAmSim3
set_option linter.unusedVariables false
set_option linter.unusedSimpArgs false
namespace Go.AM
open Go.RowKit

def Same (e e' : Env) : Prop := ∀ x, look e x = look e' x

theorem Same.opd {e e' : Env} (h : Same e e') (x : Operand) : opd e x = opd e' x := by cases x <;> simp [AM.opd, h _]

theorem OpOK.same {C : Ctx} {o : Oper} {e e' : Env} {O : Heap} {nx : Nat} {d : DV} {news : List Blk} (h : Same e e') (q : OpOK C o e O nx d news) : OpOK C o e' O nx d news := by
  intro base w0 N0 m O' a h1 h2 h3 h4 h5 X hX
  exact q base w0 N0 m O' a h1 (fun x hx => by rw [h.opd]; exact h2 x hx) h3 h4 h5 X hX

theorem WantD.same {ops : Array Oper} {e e' : Env} {o : Oper} {go : Bool} (h : Same e e') (q : WantD ops e o go) : WantD ops e' o go := by
  unfold WantD at *
  split
  · rename_i hg; simpa [hg] using q
  · rename_i j want hg
    simp only [hg] at q
    obtain ⟨t, h1, q⟩ := q
    exact ⟨t, h1, by rw [← h t]; exact q⟩

theorem Same.put {e e' : Env} (h : Same e e') (dst : Option Nat) (d : DV) : Same (putD dst d e) (putD dst d e') := by
  intro x
  rw [look_putD, look_putD, h x]

theorem Same.know {e : Env} {t : Nat} {d : DV} (h : look e t = d) : Same ((t, d) :: e) e := by
  intro x
  rw [look_cons]
  by_cases q : t = x
  · subst q; simp [h]
  · simp [q]

theorem Same.symm {e e' : Env} (h : Same e e') : Same e' e := fun x => (h x).symm
theorem Same.trans {a b c : Env} (h : Same a b) (k : Same b c) : Same a c := fun x => (h x).trans (k x)
theorem Same.rfl' (e : Env) : Same e e := fun _ => rfl

theorem ER.same {m : Mem} {e e' : Env} {a : Act} (h : Same e e') (q : ER m e a) : ER m e' a := fun t => by rw [← h t]; exact q t

theorem StepOK.same {C : Ctx} {ops : Array Oper} {nt j : Nat} {e e' : Env} {O : Heap} {hot : List Nat} {p : Pl} (h : Same e e') (q : StepOK C ops nt j e O hot p) : StepOK C ops nt j e' O hot p := by
  obtain ⟨o, h1, h2, h3, h4, h5, h6⟩ := q
  refine ⟨o, h1, h2, h3.same h, h4, fun g => ?_, h6⟩
  rcases h5 g with ⟨g1, g2⟩ | ⟨T, a, x, n, off, T', old, s1, s2, s3, s4, s5, s6, s7, s8, s9, s10, s11, s12⟩
  · exact .inl ⟨g1, g2.same h⟩
  · have e1 := h.opd x
    have e2 := h.opd a
    exact .inr ⟨T, a, x, n, off, T', old, s1, s2, by rw [← e2]; exact s3, s4, s5, by rw [← e1]; exact s6, by rw [← e1]; exact s7, s8, by rw [← e1]; exact s9, by rw [← e1]; exact s10, s11, s12⟩

/-- A heap with one block more set, that nobody here looks at. -/
theorem StepOK.unset {C : Ctx} {ops : Array Oper} {nt j : Nat} {e : Env} {O : Heap} {hot : List Nat} {p : Pl} {n : Nat} {B : Blk} (hn : n ∈ hot) (hp : ∀ n' B', p.st = some (n', B') → n' ≠ n) (q : StepOK C ops nt j e (O.set n B) hot p) : StepOK C ops nt j e O hot p := by
  obtain ⟨o, h1, h2, h3, h4, h5, h6⟩ := q
  refine ⟨o, h1, h2, h3, h4, fun g => ?_, h6⟩
  rcases h5 g with ⟨g1, g2⟩ | ⟨T, a, x, n', off, T', old, s1, s2, s3, s4, s5, s6, s7, s8, s9, s10, s11, s12⟩
  · rw [deads_set hn, List.length_set] at g2
    exact .inl ⟨g1, g2⟩
  · rw [List.getElem?_set_ne (Ne.symm (hp _ _ s10))] at s5
    exact .inr ⟨T, a, x, n', off, T', old, s1, s2, s3, s4, s5, s6, s7, s8, s9, s10, s11, s12⟩

theorem any_beq {n : Nat} {l : List Nat} : l.any (Nat.beq n) = true ↔ n ∈ l := by
  rw [List.any_eq_true]
  constructor
  · rintro ⟨x, h1, h2⟩; rw [Nat.eq_of_beq_eq_true h2]; exact h1
  · intro h; exact ⟨n, h, Nat.beq_refl n⟩

theorem nodupB_nodup : ∀ {l : List Nat}, nodupB l = true → l.Nodup
  | [], _ => by simp
  | n :: r, h => by
    simp only [nodupB, Bool.and_eq_true, Bool.not_eq_true'] at h
    refine List.nodup_cons.2 ⟨fun hm => ?_, nodupB_nodup h.2⟩
    rw [any_beq.2 hm] at h
    simp at h

theorem filterMap_inj {g : Nat → Option Nat} {n : Nat} : ∀ {m : Nat}, ((List.range m).filterMap g).Nodup → ∀ i j, i < m → j < m → g i = some n → g j = some n → i = j
  | 0, _, i, j, hi, _, _, _ => by omega
  | m + 1, h, i, j, hi, hj, gi, gj => by
    rw [List.range_succ, List.filterMap_append, List.nodup_append] at h
    obtain ⟨h1, _, h3⟩ := h
    have mem : ∀ k, k < m → g k = some n → n ∈ (List.range m).filterMap g := fun k hk hg => List.mem_filterMap.2 ⟨k, by simpa using hk, hg⟩
    by_cases e1 : i = m <;> by_cases e2 : j = m
    · omega
    · subst e1
      have := h3 n (mem j (by omega) gj) n (by simp [gi])
      exact (this rfl).elim
    · subst e2
      have := h3 n (mem i (by omega) gi) n (by simp [gj])
      exact (this rfl).elim
    · exact filterMap_inj h1 i j (by omega) (by omega) gi gj

theorem near_self {reg : Array Oper} {i : Nat} (h : fixed reg i = false) : near reg i i = true := by
  simp only [near, List.all_eq_true, List.mem_range, Bool.or_eq_true, Bool.and_eq_true, Nat.blt_eq, Bool.not_eq_true']
  intro k _
  by_cases h1 : k = i
  · subst h1; exact .inr h
  · omega
theorem near_next {reg : Array Oper} {i : Nat} (h : fixed reg i = false) (h' : fixed reg (i + 1) = false) (j : Nat) : near reg (i + 1) j = near reg i j := by
  rw [Bool.eq_iff_iff]
  simp only [near, List.all_eq_true, List.mem_range, Bool.or_eq_true, Bool.and_eq_true, Nat.blt_eq, Bool.not_eq_true']
  constructor
  · intro hh k hk
    by_cases h1 : k = i
    · subst h1; exact .inr h
    by_cases h2 : k = i + 1
    · subst h2; exact .inr h'
    rcases hh k hk with (h3 | h3) | h3
    · exact .inl (.inl ⟨by omega, h3.2⟩)
    · exact .inl (.inr ⟨by omega, h3.2⟩)
    · exact .inr h3
  · intro hh k hk
    by_cases h1 : k = i
    · subst h1; exact .inr h
    by_cases h2 : k = i + 1
    · subst h2; exact .inr h'
    rcases hh k hk with (h3 | h3) | h3
    · exact .inl (.inl ⟨by omega, h3.2⟩)
    · exact .inl (.inr ⟨by omega, h3.2⟩)
    · exact .inr h3
theorem hotAt_next {reg : Array Oper} {i : Nat} {env : Env} (h : fixed reg i = false) (h' : fixed reg (i + 1) = false) : hotAt reg (i + 1) env = hotAt reg i env := by
  funext j
  unfold hotAt
  rw [near_next h h']
theorem hotN_next {reg : Array Oper} {i : Nat} {env : Env} (h : fixed reg i = false) (h' : fixed reg (i + 1) = false) : hotN reg (i + 1) env = hotN reg i env := by
  unfold hotN
  rw [hotAt_next h h']

theorem hot_inj {reg : Array Oper} {i0 : Nat} {env : Env} (h : nodupB (hotN reg i0 env) = true) {i j n : Nat} (hi : i < reg.size) (hj : j < reg.size) (h1 : hotAt reg i0 env i = some n) (h2 : hotAt reg i0 env j = some n) : i = j :=
  filterMap_inj (nodupB_nodup h) i j hi hj h1 h2

theorem hotAt_same {i0 : Nat} {reg : Array Oper} {env env' : Env} (hok : hotOk reg = true) {o : Oper} {i : Nat} (ho : reg[i]? = some o) {d : DV} (h : Same env' (putD o.dst d env)) (j : Nat) (hj : j < reg.size) : hotAt reg i0 env' j = hotAt reg i0 env j := by
  simp only [hotOk, List.all_eq_true, List.mem_range, Bool.or_eq_true] at hok
  have := hok j hj
  unfold hotAt
  cases hf : fixed reg j with
  | true => rfl
  | false =>
    simp only [cond_false]
    rw [hf] at this
    have this := this.resolve_left (by simp)
    split
    · rename_i q hq
      rw [hq] at this
      simp only at this
      split
      · rename_i T a x hop
        rw [hop] at this
        simp only [List.all_eq_true] at this
        have hmem : o ∈ reg.toList := by simpa using Array.mem_of_getElem? ho
        have hne : o.dst ≠ some a := by have := this o hmem; simpa using this
        have e : look env' a = look env a := by rw [h a, look_putD, if_neg hne]
        rw [e]
      · rfl
    · rfl

theorem filterMap_same {g g' : Nat → Option Nat} : ∀ {l : List Nat}, (∀ j ∈ l, g j = g' j) → l.filterMap g = l.filterMap g'
  | [], _ => rfl
  | j :: r, h => by
    have ih := filterMap_same (g := g) (g' := g') (l := r) (fun k hk => h k (List.mem_cons_of_mem _ hk))
    simp only [List.filterMap_cons, h j (by simp), ih]

theorem hotN_same {i0 : Nat} {reg : Array Oper} {env env' : Env} (hok : hotOk reg = true) {o : Oper} {i : Nat} (ho : reg[i]? = some o) {d : DV} (h : Same env' (putD o.dst d env)) : hotN reg i0 env' = hotN reg i0 env := by
  unfold hotN
  refine filterMap_same fun j hj => hotAt_same hok ho h j (by simpa using hj)

theorem hotAt_env {i0 : Nat} {reg : Array Oper} {e e' : Env} (h : Same e e') (j : Nat) : hotAt reg i0 e j = hotAt reg i0 e' j := by
  unfold hotAt
  cases fixed reg j with
  | true => rfl
  | false =>
    simp only [cond_false]
    split
    · split
      · rw [h]
      · rfl
    · rfl

theorem hotN_env {i0 : Nat} {reg : Array Oper} {e e' : Env} (h : Same e e') : hotN reg i0 e = hotN reg i0 e' := by
  unfold hotN
  exact filterMap_same fun j _ => hotAt_env h j

theorem heapA_set {O : Heap} {F : Nat → Pl} {n : Nat} {B : Blk} (hn : n < O.length) : ∀ t, heapA (O.set n B) F t = (heapA O F t).set n B
  | 0 => rfl
  | t + 1 => by
    simp only [heapA, heapA_set hn t]
    rw [List.set_append_left]
    obtain ⟨r, hr⟩ := heapA_pre O F (Nat.zero_le t)
    rw [hr]
    simp only [heapA, List.length_append]
    omega

section
variable {R : Type} (C : Ctx) (L : Fr → List Fr → Heap → Option R) (fin : DV → Heap → Option R)

noncomputable def retRun (n : Nat) (fr : Fr) (st : List Fr) (O : Heap) : Option R :=
  match C.P.funcs[fr.fn]? with
  | some fn => bif resOk C.P fr.env O fn.results.toList then (match st with
    | [] => fin (tupD (resultsD C.P fr.env O fn.results.toList)) O
    | c :: st' => (match c.todo with
      | .ops reg i draw :: k => run C L fin n { c with env := putD ((reg[i]?).bind (·.dst)) (tupD (resultsD C.P fr.env O fn.results.toList)) c.env, todo := .ops reg (i + 1) draw :: k } st' O
      | _ => none)) else none
  | none => none

noncomputable def wOp (n : Nat) (fr : Fr) (st : List Fr) (O : Heap) (reg : Array Oper) (i : Nat) (draw : Bool) (k : List It) (o : Oper) (env : Env) : Option R :=
  bif frzQ C o env O then run C L fin n { fr with env := fzE O (needF C o env) env, todo := .ops reg i draw :: k } (fzS O (needF C o env) st) (fzH O (needF C o env) 0 O) else
    match o.op with
    | .call c => (match c.callee with
      | .builtin _ => evW C o env O O.length fun d O' => run C L fin n { fr with env := putD o.dst d env, todo := .ops reg (i + 1) draw :: k } st O'
      | _ => (match target C.P env c with
        | some (g, args) => (match enter C.P g args with
          | some f => run C L fin n f ({ fr with env := env, todo := .ops reg i draw :: k } :: st) O
          | none => none)
        | none => none))
    | _ => evW C o env O O.length fun d O' => run C L fin n { fr with env := putD o.dst d env, todo := .ops reg (i + 1) draw :: k } st O'

noncomputable def wLoose (n : Nat) (fr : Fr) (st : List Fr) (O : Heap) (reg : Array Oper) (i : Nat) (draw : Bool) (k : List It) (o : Oper) (env : Env) : Option R :=
  bif nodupB (hotN reg i env) then (match o.op with
    | .store _ (.tmp a) _ => bif isPtrD (look env a) then evW C o env O O.length fun d O' => run C L fin n { fr with env := putD o.dst d env, todo := .ops reg (i + 1) draw :: k } st O' else none
    | _ => none) else none

noncomputable def exOp (n : Nat) (fr : Fr) (st : List Fr) (O : Heap) (reg : Array Oper) (i : Nat) (draw : Bool) (k : List It) (o : Oper) (env : Env) : Option R :=
  bif draw && !fixed reg i then
    bif (hotN reg i env).all (fun n => Nat.blt n O.length) then
      evB C o env (fun d => run C L fin n { fr with env := putD o.dst d env, todo := .ops reg (i + 1) draw :: k } st O) <| evR C o env (deads (hotN reg i env) O) O.length (wLoose C L fin n fr st O reg i draw k o env) fun d news => run C L fin n { fr with env := putD o.dst d env, todo := .ops reg (i + 1) draw :: k } st (O ++ news)
    else none
  else
  evR C o env O O.length (wOp C L fin n fr st O reg i draw k o env) fun d news => run C L fin n { fr with env := putD o.dst d env, todo := .ops reg (i + 1) draw :: k } st (O ++ news)
end

section
variable {R : Type} {C : Ctx} {L : Fr → List Fr → Heap → Option R} {fin : DV → Heap → Option R} {fr : Fr} {st : List Fr} {O : Heap} {r : R} {n : Nat} {reg : Array Oper} {i : Nat} {draw : Bool} {k : List It}

theorem run_op {o : Oper} (ht : fr.todo = .ops reg i draw :: k) (ho : reg[i]? = some o) (h : run C L fin (n + 1) fr st O = some r) : (dstOk o.dst fr.nt = true ∧ (draw = true → fixed reg i = false → hotOk reg = true)) ∧
    ((∃ e', Same e' fr.env ∧ WantD reg fr.env o false ∧ run C L fin n { fr with env := putD o.dst (.raw undef) e', todo := .ops reg (i + 1) draw :: k } st O = some r) ∨
      (∃ e', Same e' fr.env ∧ WantD reg fr.env o true ∧ exOp C L fin n fr st O reg i draw k o e' = some r)) := by
  rw [run] at h
  simp only [ht, ho] at h
  cases hd : dstOk o.dst fr.nt && (!draw || fixed reg i || hotOk reg) <;> simp only [hd, cond_true, cond_false] at h
  · simp at h
  simp only [Bool.and_eq_true, Bool.or_eq_true, Bool.not_eq_true'] at hd
  refine ⟨⟨hd.1, fun h1 h2 => by
    rcases hd.2 with (q | q) | q
    · rw [h1] at q; simp at q
    · rw [h2] at q; simp at q
    · exact q⟩, ?_⟩
  split at h
  · rename_i hg
    exact .inr ⟨fr.env, Same.rfl' _, by simp [WantD, hg], h⟩
  · rename_i j want hg
    split at h
    · rename_i t htt
      split at h
      · rename_i v hv
        have hw : ∀ go, go = ((v : Bool) == want) → WantD reg fr.env o go := fun go hgo => by
          unfold WantD
          rw [hg]
          exact ⟨t, htt, .inl ⟨v, hv, hgo⟩⟩
        cases v <;> cases want <;> simp only [cond_true, cond_false] at h
        · exact .inr ⟨_, Same.know hv, hw _ rfl, h⟩
        · exact .inl ⟨_, Same.know hv, hw _ rfl, h⟩
        · exact .inl ⟨_, Same.know hv, hw _ rfl, h⟩
        · exact .inr ⟨_, Same.know hv, hw _ rfl, h⟩
      · rename_i vs hv
        refine .inl ⟨fr.env, Same.rfl' _, ?_, h⟩
        unfold WantD
        rw [hg]
        exact ⟨t, htt, .inr ⟨vs, hv, rfl⟩⟩
      · simp at h
    · simp at h

def consF (p : Pl) (F : Nat → Pl) : Nat → Pl
  | 0 => p
  | t + 1 => F t

theorem envA_cons {p : Pl} {F : Nat → Pl} {e e1 : Env} (h : Same e1 (putD (dstAt reg i 0) p.d e)) : ∀ t, Same (envA reg (i + 1) e1 F t) (envA reg i e (consF p F) (t + 1))
  | 0 => h
  | t + 1 => by
    have ih := envA_cons (F := F) h t
    have hd : dstAt reg (i + 1) t = dstAt reg i (t + 1) := by simp only [dstAt]; rw [show i + 1 + t = i + (t + 1) by omega]
    simp only [envA, consF] at ih ⊢
    rw [hd]
    exact ih.put _ _

theorem heapA_cons {p : Pl} {F : Nat → Pl} : ∀ t, heapA (O ++ p.news) F t = heapA O (consF p F) (t + 1)
  | 0 => rfl
  | t + 1 => by
    have ih := heapA_cons (p := p) (F := F) t
    simp only [heapA, consF] at ih ⊢
    rw [ih]

theorem setsD_cons {p : Pl} {F : Nat → Pl} {H : Heap} : ∀ t, setsD (consF p F) (fun _ => true) (t + 1) H = setsD F (fun _ => true) t (match p.st with | some (n, B) => H.set n B | none => H)
  | 0 => by
    simp only [setsD, consF]
    cases p.st with
    | none => rfl
    | some q => rfl
  | t + 1 => by
    have ih := setsD_cons (p := p) (F := F) (H := H) t
    rw [setsD]
    simp only [consF]
    rw [ih]
    simp only [setsD]

/-- What a store into a variable of one's own does. -/
theorem loose_store {o : Oper} {env : Env} {O : Heap} {n : Nat} {draw : Bool} (h : wLoose C L fin n fr st O reg i draw k o env = some r) (ho : reg[i]? = some o) (hf : fixed reg i = false) :
    nodupB (hotN reg i env) = true ∧ ∃ p : Pl, StoreOK C o env O (hotN reg i env) p ∧ (∃ x B, p.st = some (x, B) ∧ hotAt reg i env i = some x ∧
      run C L fin n { fr with env := putD o.dst p.d env, todo := .ops reg (i + 1) draw :: k } st (O.set x B) = some r) := by
  unfold wLoose at h
  cases hn : nodupB (hotN reg i env) <;> simp only [hn, cond_true, cond_false] at h
  · simp at h
  refine ⟨rfl, ?_⟩
  split at h
  · rename_i T a x hop
    cases hp : isPtrD (look env a) <;> simp only [hp, cond_true, cond_false] at h
    · simp at h
    obtain ⟨m, off, hl⟩ : ∃ m off, look env a = .ptr m off := by
      cases hq : look env a <;> rw [hq] at hp <;> simp [isPtrD] at hp
      exact ⟨_, _, rfl⟩
    have hat : hotAt reg i env i = some m := by
      unfold hotAt
      rw [hf, ho]
      simp only [cond_false, hop, hl, near_self hf, cond_true]
    have hi : i < reg.size := (Array.getElem?_eq_some_iff.1 ho).1
    unfold evW at h
    simp only [hop] at h
    cases hc : sized (opd env x) (C.P.cellsOf T) && Nat.blt 0 (C.P.cellsOf T) && (cellsOf (opd env x)).all leafD && o.dst.isNone <;> simp only [hc, cond_true, cond_false] at h
    · simp at h
    simp only [Bool.and_eq_true, Nat.blt_eq, Option.isNone_iff_eq_none] at hc
    obtain ⟨⟨⟨c1, c2⟩, c3⟩, c4⟩ := hc
    split at h
    · rename_i O' hs
      rw [show opd env (.tmp a) = .ptr m off from hl] at hs
      simp only [storeD] at hs
      split at hs
      · rename_i T' old hget
        cases hb : Nat.ble (off + (cellsOf (opd env x)).length) old.length with
        | false => rw [hb] at hs; simp at hs
        | true =>
          rw [hb] at hs
          simp at hs
          subst hs
          exact ⟨⟨.un, [], true, some (m, .cells T' (putAt old off (cellsOf (opd env x))))⟩, ⟨T, .tmp a, x, m, off, T', old, hop, c4, hl, List.mem_filterMap.2 ⟨i, by simpa using hi, hat⟩, hget, Nat.le_of_ble_eq_true hb, c1, c2, c3, rfl, rfl, rfl⟩, m, _, rfl, hat, h⟩
      · simp at hs
    · simp at h
  · simp at h

theorem collect (hC : C.OK) : ∀ (n : Nat) (fr : Fr) (O : Heap) (i : Nat), fr.todo = .ops reg i true :: k → run C L fin n fr st O = some r → i < reg.size → fixed reg i = false →
    ∃ (M : Nat) (F : Nat → Pl) (e' : Env) (n' : Nat), n' < n ∧ Same e' (envA reg i fr.env F M) ∧ (∀ t, t < M → StepOK C reg fr.nt (i + t) (envA reg i fr.env F t) (heapA O F t) (hotN reg i fr.env) (F t)) ∧
      (reg.size ≤ i + M ∨ fixed reg (i + M) = true) ∧ (Dist F M ∧ (∀ s n B, s < M → (F s).st = some (n, B) → n ∈ hotN reg i fr.env) ∧ (∀ s n B, s < M → (F s).st = some (n, B) → n < O.length)) ∧
      run C L fin n' { fr with env := e', todo := .ops reg (i + M) true :: k } st (setsD F (fun _ => true) M (heapA O F M)) = some r := by
  suffices H : ∀ (n : Nat) (fr : Fr) (O : Heap) (i : Nat), fr.todo = .ops reg i true :: k → run C L fin n fr st O = some r → i < reg.size → fixed reg i = false →
    ∃ (M : Nat) (F : Nat → Pl) (e' : Env) (n' : Nat), n' < n ∧ Same e' (envA reg i fr.env F M) ∧ (∀ t, t < M → StepOK C reg fr.nt (i + t) (envA reg i fr.env F t) (heapA O F t) (hotN reg i fr.env) (F t)) ∧
      (reg.size ≤ i + M ∨ fixed reg (i + M) = true) ∧ (∀ t n B, t < M → (F t).st = some (n, B) → nodupB (hotN reg i fr.env) = true ∧ hotAt reg i fr.env (i + t) = some n ∧ (F t).go = true) ∧ ((∃ t, t < M ∧ (F t).go = true) → ∀ n ∈ hotN reg i fr.env, n < O.length) ∧
      run C L fin n' { fr with env := e', todo := .ops reg (i + M) true :: k } st (setsD F (fun _ => true) M (heapA O F M)) = some r by
    intro n fr O i h1 h2 h3 h4
    obtain ⟨M, F, e', n', g1, g2, g3, g4, g6, g7, g8⟩ := H n fr O i h1 h2 h3 h4
    have sz : ∀ t, t < M → i + t < reg.size := fun t ht => by
      obtain ⟨o, ho, _⟩ := g3 t ht
      exact (Array.getElem?_eq_some_iff.1 ho).1
    have mem : ∀ s n B, s < M → (F s).st = some (n, B) → n ∈ hotN reg i fr.env := fun s n B hs hst => List.mem_filterMap.2 ⟨i + s, by simpa using sz s hs, (g6 s n B hs hst).2.1⟩
    refine ⟨M, F, e', n', g1, g2, g3, g4, ⟨fun s t n B B' hs ht h1 h2 => ?_, mem, fun s n B hs hst => g7 ⟨s, hs, (g6 s n B hs hst).2.2⟩ n (mem s n B hs hst)⟩, g8⟩
    have := hot_inj (g6 s n B hs h1).1 (sz s hs) (sz t ht) (g6 s n B hs h1).2.1 (g6 t n B' ht h2).2.1
    omega
  intro n
  induction n with
  | zero => intro fr O i _ h; simp [run] at h
  | succ n ih =>
    intro fr O i ht h hi hp
    have ho : reg[i]? = some reg[i] := Array.getElem?_eq_getElem hi
    generalize reg[i] = o at ho
    obtain ⟨⟨hd, hok⟩, hh⟩ := run_op ht ho h
    have hok := hok rfl hp
    obtain ⟨p, e1, hsame, hstep, hlow, hst, hrun⟩ : ∃ (p : Pl) (e1 : Env), Same e1 (putD o.dst p.d fr.env) ∧ StepOK C reg fr.nt i fr.env O (hotN reg i fr.env) p ∧ (p.go = true → ∀ n ∈ hotN reg i fr.env, n < O.length) ∧
        (∀ n B, p.st = some (n, B) → nodupB (hotN reg i fr.env) = true ∧ hotAt reg i fr.env i = some n ∧ p.news = [] ∧ p.go = true) ∧
        run C L fin n { fr with env := e1, todo := .ops reg (i + 1) true :: k } st (match p.st with | some (n, B) => (O ++ p.news).set n B | none => O ++ p.news) = some r := by
      rcases hh with ⟨e', h1, h2, h3⟩ | ⟨e', h1, h2, h3⟩
      · exact ⟨⟨.raw undef, [], false, none⟩, _, h1.put _ _, ⟨o, ho, hd, h2, by simp, by simp, by simp⟩, by simp, by simp, by simpa using h3⟩
      · unfold exOp at h3
        simp only [hp, Bool.not_false, Bool.and_true, cond_true] at h3
        cases hq : (hotN reg i e').all (fun n => Nat.blt n O.length) <;> simp only [hq, cond_true, cond_false] at h3
        · simp at h3
        rw [hotN_env h1] at h3 hq
        simp only [List.all_eq_true, Nat.blt_eq] at hq
        rcases evB_done h3 with h3 | ⟨d, hop, h4⟩
        case inr => exact ⟨⟨d, [], true, none⟩, _, h1.put _ _, ⟨o, ho, hd, h2, by simp, fun _ => .inl ⟨rfl, (hop _ _).same h1⟩, by simp⟩, fun _ => hq, by simp, by simpa using h4⟩
        rcases done_all hC h3 with h4 | ⟨d, news, hnd, hop, h4⟩
        · obtain ⟨g1, p, g2, x, B, g3, g4, g5⟩ := loose_store h4 ho hp
          rw [hotN_env h1] at g1 g2
          have hnews : p.news = [] := by obtain ⟨_, _, _, _, _, _, _, _, _, _, _, _, _, _, _, _, _, _, q⟩ := g2; exact q
          have g2' : StoreOK C o e' O (hotN reg i fr.env) { p with go := true } := g2
          refine ⟨{ p with go := true }, putD o.dst p.d e', h1.put _ _, ?_, fun _ => hq, ?_, ?_⟩
          · refine ⟨o, ho, hd, h2, by rw [hnews]; simp, fun _ => .inr ?_, by simp⟩
            obtain ⟨T, a, x, n, off, T', old, s1, s2, s3, s4, s5, s6, s7, s8, s9, s10, s11, s12⟩ := g2'
            have e1 := h1.opd x
            have e2 := h1.opd a
            exact ⟨T, a, x, n, off, T', old, s1, s2, by rw [← e2]; exact s3, s4, s5, by rw [← e1]; exact s6, by rw [← e1]; exact s7, s8, by rw [← e1]; exact s9, by rw [← e1]; exact s10, s11, s12⟩
          · intro n B' hst
            simp only at hst
            rw [g3] at hst
            simp at hst
            obtain ⟨rfl, rfl⟩ := hst
            exact ⟨g1, by rw [← hotAt_env h1]; exact g4, hnews, rfl⟩
          · simp only [g3, hnews, List.append_nil]
            exact g5
        · exact ⟨⟨d, news, true, none⟩, _, h1.put _ _, ⟨o, ho, hd, h2, hnd, fun _ => .inl ⟨rfl, hop.same h1⟩, by simp⟩, fun _ => hq, by simp, h4⟩
    have hdst : dstAt reg i 0 = o.dst := by simp [dstAt, ho]
    by_cases hend : reg.size ≤ i + 1 ∨ fixed reg (i + 1) = true
    · refine ⟨1, fun _ => p, e1, n, by omega, ?_, ?_, hend, ?_, ?_, ?_⟩
      · simp only [envA, hdst]; exact hsame
      · intro t ht
        have : t = 0 := by omega
        subst this
        exact hstep
      · intro t n B ht hs
        have : t = 0 := by omega
        subst this
        obtain ⟨q1, q2, _, q4⟩ := hst n B hs
        exact ⟨q1, q2, q4⟩
      · rintro ⟨t, _, hg⟩
        exact hlow hg
      · have : setsD (fun _ => p) (fun _ => true) 1 (heapA O (fun _ => p) 1) = (match p.st with | some (n, B) => (O ++ p.news).set n B | none => O ++ p.news) := by
          simp only [setsD, heapA]
          cases p.st with
          | none => rfl
          | some q => rfl
        rw [this]
        exact hrun
    · have hp' : fixed reg (i + 1) = false := by
        cases hq : fixed reg (i + 1)
        · rfl
        · exact (hend (.inr hq)).elim
      have hN : hotN reg (i + 1) e1 = hotN reg i fr.env := (hotN_next hp hp').trans (hotN_same hok ho hsame)
      have hA : ∀ j, j < reg.size → hotAt reg (i + 1) e1 j = hotAt reg i fr.env j := fun j hj => (congrFun (hotAt_next hp hp') j).trans (hotAt_same hok ho hsame j hj)
      obtain ⟨M, F, e', n', h1, h2, h3, h4, h5, h6, h7⟩ := ih { fr with env := e1, todo := .ops reg (i + 1) true :: k } _ (i + 1) rfl hrun (by
          have := fun q => hend (.inl q); omega) (by
          cases hq : fixed reg (i + 1)
          · rfl
          · exact (hend (.inr hq)).elim)
      have hs0 : Same e1 (putD (dstAt reg i 0) p.d fr.env) := by rw [hdst]; exact hsame
      have sz : ∀ t, t < M → i + 1 + t < reg.size := fun t ht => by
        obtain ⟨o, ho, _⟩ := h3 t ht
        exact (Array.getElem?_eq_some_iff.1 ho).1
      have len1 : (match p.st with | some (n, B) => (O ++ p.news).set n B | none => O ++ p.news).length = (O ++ p.news).length := by
        cases p.st with
        | none => rfl
        | some q => simp
      refine ⟨M + 1, consF p F, e', n', by omega, h2.trans (envA_cons hs0 M), ?_, ?_, ?_, ?_, ?_⟩
      · intro t ht
        cases t with
        | zero => exact hstep
        | succ t =>
          have hsp := h3 t (by omega)
          simp only [hN] at hsp
          have hsp := hsp.same (envA_cons hs0 t)
          rw [show i + 1 + t = i + (t + 1) by omega] at hsp
          show StepOK C reg fr.nt (i + (t + 1)) (envA reg i fr.env (consF p F) (t + 1)) (heapA O (consF p F) (t + 1)) (hotN reg i fr.env) (F t)
          rw [← heapA_cons]
          cases hps : p.st with
          | none => rw [hps] at hsp; exact hsp
          | some q =>
            obtain ⟨x, B⟩ := q
            obtain ⟨q1, q2, q3, q4⟩ := hst x B hps
            rw [hps] at hsp
            have hx : x ∈ hotN reg i fr.env := List.mem_filterMap.2 ⟨i, by simpa using hi, q2⟩
            simp only at hsp
            rw [heapA_set (by have := hlow q4 x hx; simp; omega)] at hsp
            refine hsp.unset hx fun n' B' hst' e => ?_
            subst e
            have := (h5 t n' B' (by omega) hst').2.1
            rw [hA _ (sz t (by omega))] at this
            have := hot_inj q1 hi (sz t (by omega)) q2 this
            omega
      · rw [show i + (M + 1) = i + 1 + M by omega]; exact h4
      · intro t n B ht hs
        cases t with
        | zero =>
          obtain ⟨q1, q2, _, q4⟩ := hst n B hs
          exact ⟨q1, q2, q4⟩
        | succ t =>
          obtain ⟨q1, q2, q3⟩ := h5 t n B (by omega) hs
          simp only [hN] at q1
          refine ⟨q1, ?_, q3⟩
          rw [show i + (t + 1) = i + 1 + t by omega, ← hA _ (sz t (by omega))]
          exact q2
      · rintro ⟨t, ht, hg⟩
        cases hpg : p.go with
        | true => exact hlow hpg
        | false =>
          obtain ⟨_, _, _, _, _, _, hsk⟩ := hstep
          obtain ⟨_, e2, e3⟩ := hsk hpg
          cases t with
          | zero => rw [show consF p F 0 = p from rfl, hpg] at hg; simp at hg
          | succ t =>
            have := h6 ⟨t, by omega, hg⟩
            simp only [hN, e2, e3, List.append_nil] at this
            exact this
      · rw [show i + (M + 1) = i + 1 + M by omega, setsD_cons, ← heapA_cons]
        cases hps : p.st with
        | none => rw [hps] at h7; exact h7
        | some q =>
          obtain ⟨x, B⟩ := q
          obtain ⟨q1, q2, q3, q4⟩ := hst x B hps
          rw [hps] at h7
          have hx : x ∈ hotN reg i fr.env := List.mem_filterMap.2 ⟨i, by simpa using hi, q2⟩
          simp only at h7 ⊢
          rw [heapA_set (by have := hlow q4 x hx; simp; omega)] at h7
          exact h7

theorem vA_none {V0 : Nat → DV} {dst : Nat → Option Nat} {D : Nat → DV} {x : Nat} : ∀ j, vA V0 dst D (fun _ => false) j x = V0 x
  | 0 => rfl
  | j + 1 => by simp only [vA, Bool.false_eq_true, false_and, if_false]; exact vA_none j

theorem getD_rel {m : Mem} : ∀ {ds : List DV} {vs : List Value} (j : Nat), VRL m ds vs → VR m (ds.getD j .un) (vs.getD j undef)
  | [], vs, j, h => by simp only [List.getD_nil, VR]
  | d :: r, vs, 0, h => by simp only [VRL] at h; obtain ⟨v, vr, rfl, h1, _⟩ := h; simpa using h1
  | d :: r, vs, j + 1, h => by simp only [VRL] at h; obtain ⟨v, vr, rfl, _, h2⟩ := h; simpa using getD_rel j h2

theorem look_argEnv : ∀ (ds : List DV) (i t : Nat), look (argEnv i ds) t = if i ≤ t then ds.getD (t - i) .un else .un
  | [], i, t => by simp [argEnv, look]
  | d :: r, i, t => by
    simp only [argEnv, look_cons, look_argEnv r (i + 1) t]
    by_cases h : i = t
    · subst h; simp
    · by_cases h2 : i ≤ t
      · rw [if_neg h, if_pos (by omega), if_pos h2]
        obtain ⟨q, rfl⟩ : ∃ q, t = i + 1 + q := ⟨t - (i + 1), by omega⟩
        rw [show i + 1 + q - (i + 1) = q by omega, show i + 1 + q - i = q + 1 by omega]
        simp
      · rw [if_neg h, if_neg (by omega), if_neg h2]

theorem argEnv_er {m : Mem} {ds : List DV} {vs : Array Value} (h : VRL m ds vs.toList) (z : Nat) : ER m (argEnv 0 ds) ⟨vs ++ Array.replicate z undef, []⟩ := by
  intro t
  rw [look_argEnv]
  simp only [Nat.zero_le, if_true, Nat.sub_zero]
  by_cases ht : t < vs.size
  · have := getD_rel t h
    have e : (vs ++ Array.replicate z undef).getD t undef = vs.toList.getD t undef := by
      rw [Array.getD_eq_getD_getElem?, Array.getElem?_append_left ht]
      simp [ht]
    rw [e]; exact this
  · have hl := h.len
    rw [List.getD_eq_getElem?_getD, List.getElem?_eq_none (by simp at hl; omega)]
    simp only [Option.getD_none, VR]
end
end Go.AM
