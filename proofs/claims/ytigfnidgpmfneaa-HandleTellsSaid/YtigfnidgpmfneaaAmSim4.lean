/- DERIVED. NO CLAIM IN IT. The plain machine's runs are the model's. -/
import Derived.Test.YtigfnidgpmfneaaAmSim3
set_option linter.unusedVariables false
set_option linter.unusedSimpArgs false
namespace Go.AM
open Go.RowKit

def Same (e e' : Env) : Prop := ∀ x, look e x = look e' x

theorem Same.opd {e e' : Env} (h : Same e e') (x : Operand) : opd e x = opd e' x := by cases x <;> simp [AM.opd, h _]

theorem OpOK.same {C : Ctx} {o : Oper} {e e' : Env} {O : Heap} {nx : Nat} {d : DV} {news : List Blk} (h : Same e e') (q : OpOK C o e O nx d news) : OpOK C o e' O nx d news := by
  intro base w0 N0 m O' a h1 h2 h3 h4 h5 X hX
  exact q base w0 N0 m O' a h1 (fun x hx => by rw [h.opd]; exact h2 x hx) h3 h4 h5 X hX

theorem WantD.same {ops : Array Oper} {e e' : Env} {o : Oper} {go : Bool} (h : Same e e') (q : WantD ops e o go) : WantD ops e' o go := by
  unfold WantD at *
  split
  · rename_i hg; simpa [hg] using q
  · rename_i j want hg
    simp only [hg] at q
    obtain ⟨t, h1, q⟩ := q
    exact ⟨t, h1, by rw [← h t]; exact q⟩

theorem Same.put {e e' : Env} (h : Same e e') (dst : Option Nat) (d : DV) : Same (putD dst d e) (putD dst d e') := by
  intro x
  rw [look_putD, look_putD, h x]

theorem Same.know {e : Env} {t : Nat} {d : DV} (h : look e t = d) : Same ((t, d) :: e) e := by
  intro x
  rw [look_cons]
  by_cases q : t = x
  · subst q; simp [h]
  · simp [q]

theorem Same.symm {e e' : Env} (h : Same e e') : Same e' e := fun x => (h x).symm
theorem Same.trans {a b c : Env} (h : Same a b) (k : Same b c) : Same a c := fun x => (h x).trans (k x)
theorem Same.rfl' (e : Env) : Same e e := fun _ => rfl

theorem ER.same {m : Mem} {e e' : Env} {a : Act} (h : Same e e') (q : ER m e a) : ER m e' a := fun t => by rw [← h t]; exact q t

theorem StepOK.same {C : Ctx} {ops : Array Oper} {nt j : Nat} {e e' : Env} {O : Heap} {p : Pl} (h : Same e e') (q : StepOK C ops nt j e O p) : StepOK C ops nt j e' O p := by
  obtain ⟨o, h1, h2, h3, h4, h5, h6⟩ := q
  exact ⟨o, h1, h2, h3.same h, h4, fun g => (h5 g).same h, h6⟩

section
variable {R : Type} (C : Ctx) (L : Fr → List Fr → Heap → Option R) (fin : DV → Heap → Option R)

def retRun (n : Nat) (fr : Fr) (st : List Fr) (O : Heap) : Option R :=
  match C.P.funcs[fr.fn]? with
  | some fn => bif resOk C.P fr.env O fn.results.toList then (match st with
    | [] => fin (tupD (resultsD C.P fr.env O fn.results.toList)) O
    | c :: st' => (match c.todo with
      | .ops reg i draw :: k => run C L fin n { c with env := putD ((reg[i]?).bind (·.dst)) (tupD (resultsD C.P fr.env O fn.results.toList)) c.env, todo := .ops reg (i + 1) draw :: k } st' O
      | _ => none)) else none
  | none => none

def wOp (n : Nat) (fr : Fr) (st : List Fr) (O : Heap) (reg : Array Oper) (i : Nat) (draw : Bool) (k : List It) (o : Oper) (env : Env) : Option R :=
  bif draw && !pinned reg i then none else
    match o.op with
    | .call c => (match c.callee with
      | .builtin _ => evW C o env O O.length fun d O' => run C L fin n { fr with env := putD o.dst d env, todo := .ops reg (i + 1) draw :: k } st O'
      | _ => (match target C.P env c with
        | some (g, args) => (match enter C.P g args with
          | some f => run C L fin n f ({ fr with env := env, todo := .ops reg i draw :: k } :: st) O
          | none => none)
        | none => none))
    | _ => evW C o env O O.length fun d O' => run C L fin n { fr with env := putD o.dst d env, todo := .ops reg (i + 1) draw :: k } st O'

def exOp (n : Nat) (fr : Fr) (st : List Fr) (O : Heap) (reg : Array Oper) (i : Nat) (draw : Bool) (k : List It) (o : Oper) (env : Env) : Option R :=
  evR C o env O O.length (wOp C L fin n fr st O reg i draw k o env) fun d news => run C L fin n { fr with env := putD o.dst d env, todo := .ops reg (i + 1) draw :: k } st (O ++ news)
end

section
variable {R : Type} {C : Ctx} {L : Fr → List Fr → Heap → Option R} {fin : DV → Heap → Option R} {fr : Fr} {st : List Fr} {O : Heap} {r : R} {n : Nat} {reg : Array Oper} {i : Nat} {draw : Bool} {k : List It}

theorem run_op {o : Oper} (ht : fr.todo = .ops reg i draw :: k) (ho : reg[i]? = some o) (h : run C L fin (n + 1) fr st O = some r) : dstOk o.dst fr.nt = true ∧
    ((∃ e', Same e' fr.env ∧ WantD reg fr.env o false ∧ run C L fin n { fr with env := putD o.dst (.raw undef) e', todo := .ops reg (i + 1) draw :: k } st O = some r) ∨
      (∃ e', Same e' fr.env ∧ WantD reg fr.env o true ∧ exOp C L fin n fr st O reg i draw k o e' = some r)) := by
  rw [run] at h
  simp only [ht, ho] at h
  cases hd : dstOk o.dst fr.nt <;> simp only [hd, cond_true, cond_false] at h
  · simp at h
  refine ⟨rfl, ?_⟩
  split at h
  · rename_i hg
    exact .inr ⟨fr.env, Same.rfl' _, by simp [WantD, hg], h⟩
  · rename_i j want hg
    split at h
    · rename_i t htt
      split at h
      · rename_i v hv
        have hw : ∀ go, go = ((v : Bool) == want) → WantD reg fr.env o go := fun go hgo => by
          unfold WantD
          rw [hg]
          exact ⟨t, htt, .inl ⟨v, hv, hgo⟩⟩
        cases v <;> cases want <;> simp only [cond_true, cond_false] at h
        · exact .inr ⟨_, Same.know hv, hw _ rfl, h⟩
        · exact .inl ⟨_, Same.know hv, hw _ rfl, h⟩
        · exact .inl ⟨_, Same.know hv, hw _ rfl, h⟩
        · exact .inr ⟨_, Same.know hv, hw _ rfl, h⟩
      · rename_i vs hv
        refine .inl ⟨fr.env, Same.rfl' _, ?_, h⟩
        unfold WantD
        rw [hg]
        exact ⟨t, htt, .inr ⟨vs, hv, rfl⟩⟩
      · simp at h
    · simp at h

def consF (p : Pl) (F : Nat → Pl) : Nat → Pl
  | 0 => p
  | t + 1 => F t

theorem envA_cons {p : Pl} {F : Nat → Pl} {e e1 : Env} (h : Same e1 (putD (dstAt reg i 0) p.d e)) : ∀ t, Same (envA reg (i + 1) e1 F t) (envA reg i e (consF p F) (t + 1))
  | 0 => h
  | t + 1 => by
    have ih := envA_cons (F := F) h t
    have hd : dstAt reg (i + 1) t = dstAt reg i (t + 1) := by simp only [dstAt]; rw [show i + 1 + t = i + (t + 1) by omega]
    simp only [envA, consF] at ih ⊢
    rw [hd]
    exact ih.put _ _

theorem heapA_cons {p : Pl} {F : Nat → Pl} : ∀ t, heapA (O ++ p.news) F t = heapA O (consF p F) (t + 1)
  | 0 => rfl
  | t + 1 => by
    have ih := heapA_cons (p := p) (F := F) t
    simp only [heapA, consF] at ih ⊢
    rw [ih]

theorem collect (hC : C.OK) : ∀ (n : Nat) (fr : Fr) (O : Heap) (i : Nat), fr.todo = .ops reg i true :: k → run C L fin n fr st O = some r → i < reg.size → pinned reg i = false →
    ∃ (M : Nat) (F : Nat → Pl) (e' : Env) (n' : Nat), n' < n ∧ Same e' (envA reg i fr.env F M) ∧ (∀ t, t < M → StepOK C reg fr.nt (i + t) (envA reg i fr.env F t) (heapA O F t) (F t)) ∧
      (reg.size ≤ i + M ∨ pinned reg (i + M) = true) ∧ run C L fin n' { fr with env := e', todo := .ops reg (i + M) true :: k } st (heapA O F M) = some r := by
  intro n
  induction n with
  | zero => intro fr O i _ h; simp [run] at h
  | succ n ih =>
    intro fr O i ht h hi hp
    have ho : reg[i]? = some reg[i] := Array.getElem?_eq_getElem hi
    generalize reg[i] = o at ho
    obtain ⟨hd, hh⟩ := run_op ht ho h
    obtain ⟨p, e1, hsame, hstep, hrun⟩ : ∃ (p : Pl) (e1 : Env), Same e1 (putD o.dst p.d fr.env) ∧ StepOK C reg fr.nt i fr.env O p ∧ run C L fin n { fr with env := e1, todo := .ops reg (i + 1) true :: k } st (O ++ p.news) = some r := by
      rcases hh with ⟨e', h1, h2, h3⟩ | ⟨e', h1, h2, h3⟩
      · exact ⟨⟨.raw undef, [], false⟩, _, h1.put _ _, ⟨o, ho, hd, h2, by simp, by simp, by simp⟩, by simpa using h3⟩
      · unfold exOp at h3
        rcases done_all hC h3 with h4 | ⟨d, news, hnd, hop, h4⟩
        · simp [wOp, hp] at h4
        · exact ⟨⟨d, news, true⟩, _, h1.put _ _, ⟨o, ho, hd, h2, hnd, fun _ => hop.same h1, by simp⟩, h4⟩
    have hdst : dstAt reg i 0 = o.dst := by simp [dstAt, ho]
    by_cases hend : reg.size ≤ i + 1 ∨ pinned reg (i + 1) = true
    · refine ⟨1, fun _ => p, e1, n, by omega, ?_, ?_, hend, hrun⟩
      · simp only [envA, hdst]; exact hsame
      · intro t ht
        have : t = 0 := by omega
        subst this
        exact hstep
    · obtain ⟨M, F, e', n', h1, h2, h3, h4, h5⟩ := ih { fr with env := e1, todo := .ops reg (i + 1) true :: k } (O ++ p.news) (i + 1) rfl hrun (by
          have := fun q => hend (.inl q); omega) (by
          cases hq : pinned reg (i + 1)
          · rfl
          · exact (hend (.inr hq)).elim)
      have hs0 : Same e1 (putD (dstAt reg i 0) p.d fr.env) := by rw [hdst]; exact hsame
      refine ⟨M + 1, consF p F, e', n', by omega, h2.trans (envA_cons hs0 M), ?_, ?_, ?_⟩
      · intro t ht
        cases t with
        | zero => exact hstep
        | succ t =>
          have := h3 t (by omega)
          rw [heapA_cons] at this
          have := this.same (envA_cons hs0 t)
          rw [show i + 1 + t = i + (t + 1) by omega] at this
          exact this
      · rw [show i + (M + 1) = i + 1 + M by omega]; exact h4
      · rw [show i + (M + 1) = i + 1 + M by omega, ← heapA_cons]; exact h5

theorem vA_none {V0 : Nat → DV} {dst : Nat → Option Nat} {D : Nat → DV} {x : Nat} : ∀ j, vA V0 dst D (fun _ => false) j x = V0 x
  | 0 => rfl
  | j + 1 => by simp only [vA, Bool.false_eq_true, false_and, if_false]; exact vA_none j

theorem getD_rel {m : Mem} : ∀ {ds : List DV} {vs : List Value} (j : Nat), VRL m ds vs → VR m (ds.getD j .un) (vs.getD j undef)
  | [], vs, j, h => by simp only [List.getD_nil, VR]
  | d :: r, vs, 0, h => by simp only [VRL] at h; obtain ⟨v, vr, rfl, h1, _⟩ := h; simpa using h1
  | d :: r, vs, j + 1, h => by simp only [VRL] at h; obtain ⟨v, vr, rfl, _, h2⟩ := h; simpa using getD_rel j h2

theorem look_argEnv : ∀ (ds : List DV) (i t : Nat), look (argEnv i ds) t = if i ≤ t then ds.getD (t - i) .un else .un
  | [], i, t => by simp [argEnv, look]
  | d :: r, i, t => by
    simp only [argEnv, look_cons, look_argEnv r (i + 1) t]
    by_cases h : i = t
    · subst h; simp
    · by_cases h2 : i ≤ t
      · rw [if_neg h, if_pos (by omega), if_pos h2]
        obtain ⟨q, rfl⟩ : ∃ q, t = i + 1 + q := ⟨t - (i + 1), by omega⟩
        rw [show i + 1 + q - (i + 1) = q by omega, show i + 1 + q - i = q + 1 by omega]
        simp
      · rw [if_neg h, if_neg (by omega), if_neg h2]

theorem argEnv_er {m : Mem} {ds : List DV} {vs : Array Value} (h : VRL m ds vs.toList) (z : Nat) : ER m (argEnv 0 ds) ⟨vs ++ Array.replicate z undef, []⟩ := by
  intro t
  rw [look_argEnv]
  simp only [Nat.zero_le, if_true, Nat.sub_zero]
  by_cases ht : t < vs.size
  · have := getD_rel t h
    have e : (vs ++ Array.replicate z undef).getD t undef = vs.toList.getD t undef := by
      rw [Array.getD_eq_getD_getElem?, Array.getElem?_append_left ht]
      simp [ht]
    rw [e]; exact this
  · have hl := h.len
    rw [List.getD_eq_getElem?_getD, List.getElem?_eq_none (by simp at hl; omega)]
    simp only [Option.getD_none, VR]
end
end Go.AM
