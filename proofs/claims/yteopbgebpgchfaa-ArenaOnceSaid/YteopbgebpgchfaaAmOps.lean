/- DERIVED. NO CLAIM IN IT. The operations that read, reckon and make: what the plain machine says of them the model does. Part 1. -/
import Derived.Test.YteopbgebpgchfaaAmBase
import Derived.Deep.MidRow
import Derived.Conc.Own4
set_option linter.unusedVariables false
set_option linter.unusedSimpArgs false
namespace Go.AM
open Go.RowKit

def No : Exit → Act → World → Prop := fun _ _ _ => False

def OpOK (C : Ctx) (o : Oper) (env : Env) (O : Heap) (nx : Nat) (d : DV) (news : List Blk) : Prop :=
  ∀ (base : Nat) (w0 : World) (N0 : Nat → Prop) (m : Mem) (O' : Heap) (a : Act),
    MR base w0 N0 m O' →
    (∀ x ∈ o.op.operands, VR m (opd env x) (a.eval x)) →
    (∀ (n : Nat) B, B ≠ Blk.dead → O[n]? = some B → O'[n]? = some B) →
    (∀ (k : Nat) B, news[k]? = some B → O'[nx + k]? = some B) →
    (∀ k, k < news.length → m.ρ (nx + k) = none) →
    ∀ X : Act → World → Prop,
      (∀ v m', Ext m m' → MR base w0 N0 m' O' → VR m' d v → (∀ n h, m'.ρ n = some h → m.ρ n = some h ∨ ∃ k, k < news.length ∧ n = nx + k) →
        (∀ k, k < news.length → ∃ h, m'.ρ (nx + k) = some h) → X (a.put o.dst v) m'.w) →
      o.wp C.P a m.w X No

def Done {R : Type} (C : Ctx) (o : Oper) (env : Env) (O : Heap) (nx : Nat) (W : Option R) (K : DV → List Blk → Option R) (r : R) : Prop :=
  W = some r ∨ ∃ d news, (∀ B ∈ news, B ≠ Blk.dead) ∧ OpOK C o env O nx d news ∧ K d news = some r

theorem wp_value {P : Program} {o : Oper} {a : Act} {w w' : World} {v : Value} {X : Act → World → Prop} (h : (execOp a.eval o).run P w = .ok (.value v) w') (hx : X (a.put o.dst v) w') : o.wp P a w X No := by
  unfold Oper.wp
  rw [h]
  exact hx

/-- What makes nothing. -/
theorem OpOK.pure {C : Ctx} {o : Oper} {env : Env} {O : Heap} {nx : Nat} {d : DV}
    (h : ∀ (base : Nat) (w0 : World) (N0 : Nat → Prop) (m : Mem) (O' : Heap) (a : Act), MR base w0 N0 m O' → (∀ x ∈ o.op.operands, VR m (opd env x) (a.eval x)) →
      (∀ (n : Nat) B, B ≠ Blk.dead → O[n]? = some B → O'[n]? = some B) → ∃ v, (execOp a.eval o).run C.P m.w = .ok (.value v) m.w ∧ VR m d v) : OpOK C o env O nx d [] := by
  intro base w0 N0 m O' a hm ha hO _ _ X hX
  obtain ⟨v, h1, h2⟩ := h base w0 N0 m O' a hm ha hO
  exact wp_value h1 (hX v m (Ext.refl m) hm h2 (fun _ _ h => .inl h) (fun k hk => by simp at hk))

section
variable {R : Type} {C : Ctx} {o : Oper} {env : Env} {O : Heap} {nx : Nat} {W : Option R} {K : DV → List Blk → Option R} {r : R}

theorem Done.pure {d : DV} (hk : K d [] = some r)
    (h : ∀ (base : Nat) (w0 : World) (N0 : Nat → Prop) (m : Mem) (O' : Heap) (a : Act), MR base w0 N0 m O' → (∀ x ∈ o.op.operands, VR m (opd env x) (a.eval x)) →
      (∀ (n : Nat) B, B ≠ Blk.dead → O[n]? = some B → O'[n]? = some B) → ∃ v, (execOp a.eval o).run C.P m.w = .ok (.value v) m.w ∧ VR m d v) : Done C o env O nx W K r :=
  .inr ⟨d, [], by simp, OpOK.pure h, hk⟩

theorem done_move {x : Operand} (ho : o.op = .move x) (h : evR C o env O nx W K = some r) : Done C o env O nx W K r := by
  simp only [evR, ho] at h
  exact Done.pure h fun _ _ _ m _ a _ ha _ => ⟨a.eval x, by simp [execOp, ho], ha x (by simp [ho, Op.operands])⟩

theorem done_assign {x : Operand} (ho : o.op = .assign x) (h : evR C o env O nx W K = some r) : Done C o env O nx W K r := by
  simp only [evR, ho] at h
  exact Done.pure h fun _ _ _ m _ a _ ha _ => ⟨a.eval x, by simp [execOp, ho], ha x (by simp [ho, Op.operands])⟩

theorem done_pick {c x y : Operand} (ho : o.op = .pick c x y) (h : evR C o env O nx W K = some r) : Done C o env O nx W K r := by
  simp only [evR, ho] at h
  split at h
  · rename_i v hv
    cases v with
    | true =>
      refine Done.pure h fun _ _ _ m _ a _ ha _ => ⟨a.eval x, ?_, ha x (by simp [ho, Op.operands])⟩
      have hc := ha c (by simp [ho, Op.operands])
      rw [hv] at hc
      have := of_bool hc
      simp [execOp, ho, this, asBool]
    | false =>
      refine Done.pure h fun _ _ _ m _ a _ ha _ => ⟨a.eval y, ?_, ha y (by simp [ho, Op.operands])⟩
      have hc := ha c (by simp [ho, Op.operands])
      rw [hv] at hc
      have := of_bool hc
      simp [execOp, ho, this, asBool]
  · simp at h

theorem done_unOp {op : UnOp} {T : TypeId} {x : Operand} (ho : o.op = .unOp op T x) (h : evR C o env O nx W K = some r) : Done C o env O nx W K r := by
  simp only [evR, ho] at h
  unfold unD at h
  split at h
  · rename_i k n hx
    refine Done.pure h fun _ _ _ m _ a _ ha _ => ⟨.int k (k.wrap (0 - n)), ?_, dat_int _ _⟩
    have hc := ha x (by simp [ho, Op.operands])
    rw [hx] at hc
    have := of_int hc
    simp [execOp, ho, this, Op.unary, Op.intArith]
  · rename_i b hx
    refine Done.pure h fun _ _ _ m _ a _ ha _ => ⟨.bool (!b), ?_, dat_bool _⟩
    have hc := ha x (by simp [ho, Op.operands])
    rw [hx] at hc
    have := of_bool hc
    simp [execOp, ho, this, Op.unary]
  · simp at h

theorem done_makeInterface {T : TypeId} {x : Operand} (ho : o.op = .makeInterface T x) (h : evR C o env O nx W K = some r) : Done C o env O nx W K r := by
  simp only [evR, ho] at h
  split at h
  · simp at h
  · rename_i d hd hu
    refine Done.pure h fun _ _ _ m _ a _ ha _ => ⟨.iface T (a.eval x), ?_, ?_⟩
    · cases d <;> first | exact (hd _ rfl).elim | simp [execOp, ho, Instr.makeInterface, run_underlying hu]
    · simp only [VR]
      exact ⟨_, rfl, ha x (by simp [ho, Op.operands])⟩
  · simp at h

theorem VRL.mapMem {m : Mem} {α : Type} (f : α → DV) (g : α → Value) (l : List α) (h : ∀ x ∈ l, VR m (f x) (g x)) : VRL m (l.map f) (l.map g) := VRL.map f g l h

theorem done_makeFunc {f : Fn} {x y : Array Operand} (ho : o.op = .makeFunc f x y) (h : evR C o env O nx W K = some r) : Done C o env O nx W K r := by
  simp only [evR, ho] at h
  refine Done.pure h fun _ _ _ m _ a _ ha _ => ⟨.func f (x.map a.eval) (y.map a.eval), by simp [execOp, ho, Instr.makeFunc], ?_⟩
  simp only [VR]
  refine ⟨_, _, rfl, ?_, ?_⟩
  · have := VRL.map (m := m) (opd env) a.eval x.toList (fun z hz => ha z (by simp [ho, Op.operands]; exact .inl (by simpa using hz)))
    simpa using this
  · have := VRL.map (m := m) (opd env) a.eval y.toList (fun z hz => ha z (by simp [ho, Op.operands]; exact .inr (by simpa using hz)))
    simpa using this

theorem done_extract {x : Operand} {i : Nat} (ho : o.op = .extract x i) (h : evR C o env O nx W K = some r) : Done C o env O nx W K r := by
  simp only [evR, ho] at h
  split at h
  · rename_i ds hx
    split at h
    · rename_i d hd
      refine Done.pure h fun _ _ _ m _ a _ ha _ => ?_
      have hc := ha x (by simp [ho, Op.operands])
      rw [hx] at hc
      simp only [VR] at hc
      obtain ⟨vs, h1, h2⟩ := hc
      obtain ⟨v, h3, h4⟩ := VRL.get i h2 hd
      exact ⟨v, by simp [execOp, ho, h1, Instr.extract, show vs[i]? = some v by simpa using h3], h4⟩
    · simp at h
  · simp at h

theorem live_get {m : Mem} {base : Nat} {w0 : World} {N0 : Nat → Prop} {O O' : Heap} {n : Nat} (h : live O n = true) (hm : MR base w0 N0 m O') (hO : ∀ (n : Nat) B, B ≠ Blk.dead → O[n]? = some B → O'[n]? = some B) : ¬ m.D n := by
  unfold live at h
  intro hd
  have := (hm.dead n).1 hd
  split at h
  · simp at h
  · rename_i B hb hq
    rw [hO n B (fun e => hb e) hq] at this
    simp at this
    exact hb this
  · simp at h

theorem fnOf_rel {m : Mem} {d : DV} {v : Value} {g : Nat} {x y : List DV} (h : fnOf d = some (g, x, y)) (hv : VR m d v) : ∃ fs cs, v = .func (.func g) fs cs ∧ VRL m x fs.toList ∧ VRL m y cs.toList := by
  unfold fnOf at h
  split at h
  · rename_i f a b
    simp only [VR] at hv
    subst hv
    cases he : a.isEmpty && b.isEmpty <;> simp only [he, cond_true, cond_false] at h
    · simp at h
    · simp at h he
      obtain ⟨rfl, rfl, rfl⟩ := h
      obtain ⟨rfl, rfl⟩ := he
      exact ⟨_, _, rfl, by simp [VRL], by simp [VRL]⟩
  · rename_i f a b
    simp at h
    obtain ⟨rfl, rfl, rfl⟩ := h
    simp only [VR] at hv
    obtain ⟨fs, cs, h1, h2, h3⟩ := hv
    exact ⟨fs, cs, h1, h2, h3⟩
  · simp at h

theorem done_nilCheck {x : Operand} (ho : o.op = .nilCheck x) (h : evR C o env O nx W K = some r) : Done C o env O nx W K r := by
  simp only [evR, ho] at h
  cases hp : ptrOk O (opd env x) <;> simp only [hp, cond_true, cond_false] at h
  · simp at h
  refine Done.pure h fun _ _ _ m O' a hm ha hO => ⟨a.eval x, ?_, ha x (by simp [ho, Op.operands])⟩
  have hc := ha x (by simp [ho, Op.operands])
  revert hp hc
  generalize opd env x = d
  intro hp hc
  have fin : ∀ ad, a.eval x = .pointer (some ad) → (execOp a.eval o).run C.P m.w = .ok (.value (a.eval x)) m.w := by
    intro ad h
    simp [execOp, ho, h]
  have fin2 : ∀ g fs cs, a.eval x = .func (.func g) fs cs → (execOp a.eval o).run C.P m.w = .ok (.value (a.eval x)) m.w := by
    intro g fs cs h
    simp [execOp, ho, h]
  cases d with
  | ptr n off =>
    simp only [VR] at hc
    rcases hc with hc | ⟨b, _, hc⟩
    · exact (live_get hp hm hO hc.1).elim
    · exact fin _ hc
  | ep n z i off =>
    simp only [VR] at hc
    rcases hc with hc | ⟨b, _, _, _, _, _, hc⟩
    · exact (live_get hp hm hO hc.1).elim
    · exact fin _ hc
  | fp t y off =>
    simp only [VR] at hc
    obtain ⟨b, o', cs, _, _, _, hc⟩ := hc
    exact fin _ hc
  | _ =>
    simp only [ptrOk, Option.isSome_iff_exists] at hp
    obtain ⟨⟨g, p, q⟩, hp⟩ := hp
    obtain ⟨fs, cs, h1, _⟩ := fnOf_rel hp hc
    exact fin2 g fs cs h1
end
end Go.AM
