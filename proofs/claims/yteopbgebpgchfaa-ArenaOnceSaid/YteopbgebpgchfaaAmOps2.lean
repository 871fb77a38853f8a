/- DERIVED. NO CLAIM IN IT. The operations that read, reckon and make, part 2: arithmetic, comparisons, conversions, fields. -/
import Derived.Test.YteopbgebpgchfaaAmOps
import Derived.WideLaws
import Derived.LaidEql
set_option linter.unusedVariables false
set_option linter.unusedSimpArgs false
namespace Go.AM
open Go.RowKit

/-- Values without slices, as cells. -/
def vals : (t : Ty) → El t → List Value
  | .int k, x => [.int k x]
  | .bool, x => [.bool x]
  | .str, x => [.string x]
  | .sl _, _ => []
  | .st f, x => vals f x
  | .nil, _ => []
  | .cons a b, x => vals a x.1 ++ vals b x.2

theorem eqEl_vals {N : Nat → Prop} {w : World} : ∀ (t : Ty) (x y : El t) (b : Bool), eqEl t x y = some b → ∀ cx cy, RepC N w t x cx → RepC N w t y cy → cx = vals t x ∧ cy = vals t y
  | .int _, _, _, _, _, _, _, h, k => ⟨h, k⟩
  | .bool, _, _, _, _, _, _, h, k => ⟨h, k⟩
  | .str, _, _, _, _, _, _, h, k => ⟨h, k⟩
  | .sl _, _, _, _, h, _, _, _, _ => by simp [eqEl] at h
  | .st f, x, y, b, h, cx, cy, hx, hy => eqEl_vals f x y b h cx cy hx hy
  | .nil, _, _, _, _, _, _, h, k => ⟨h, k⟩
  | .cons p q, x, y, b, h, cx, cy, hx, hy => by
    simp only [eqEl] at h
    split at h
    · rename_i b1 b2 h1 h2
      obtain ⟨c1, c2, rfl, e1, e2⟩ := hx
      obtain ⟨c3, c4, rfl, e3, e4⟩ := hy
      obtain ⟨rfl, rfl⟩ := eqEl_vals p _ _ _ h1 _ _ e1 e3
      obtain ⟨rfl, rfl⟩ := eqEl_vals q _ _ _ h2 _ _ e2 e4
      exact ⟨rfl, rfl⟩
    · simp at h

/-- What is to be known of a type of structs whose values are compared. -/
def EqFact (P : Program) (T : TypeId) : Prop :=
  P.eqGuardType P.depth T = false ∧ ∀ f, code P T = some (.st f) → ∀ (x y : El f) b, eqEl f x y = some b → ∀ w, (Op.equal T (.agg (vals f x).toArray) (.agg (vals f y).toArray)).run P w = .ok b w

/-- What is to be known of what a call tells. -/
def Contract (P : Program) (f : FuncId) (s : Spec) : Prop :=
  ∀ (args : List DV) (nx : Nat) (d : DV) (news : List Blk), s.den args nx d news → namelessL args = true →
  ∀ (base : Nat) (w0 : World) (N0 : Nat → Prop) (m : Mem) (O' : Heap) (vs : Array Value), MR base w0 N0 m O' → VRL m args vs.toList →
    (∀ (k : Nat) B, news[k]? = some B → O'[nx + k]? = some B) → (∀ k, k < news.length → m.ρ (nx + k) = none) →
    Calls P f vs m.w fun e w' => ∃ v m', e = .returned v ∧ m'.w = w' ∧ Ext m m' ∧ MR base w0 N0 m' O' ∧ VR m' d v ∧
      (∀ n h, m'.ρ n = some h → m.ρ n = some h ∨ ∃ k, k < news.length ∧ n = nx + k) ∧ (∀ k, k < news.length → ∃ h, m'.ρ (nx + k) = some h)

structure Ctx.OK (C : Ctx) : Prop where
  spec : ∀ g sp, C.S g = some sp → Contract C.P g sp
  eq : ∀ T ∈ C.EQ, EqFact C.P T
  name : ∀ (g : Nat) fn, C.P.funcs[g]? = some fn → (fn.name == "runtime.NumGoroutine") = false
  body : ∀ g sp, C.S g = some sp → ∃ fn, C.P.funcs[g]? = some fn ∧ fn.body.isNone = false
  mixed : C.P.follows .mixedOrders = true
  ext : ∀ g xf, C.X g = some xf → ∀ (args : List DV) (d : DV), xf args = some d → ∀ (m : Mem) (vs : Array Value), VRL m args vs.toList → ∃ v, (callFunc g vs).run C.P m.w = .ok (.value v) m.w ∧ VR m d v

section
variable {R : Type} {C : Ctx} {o : Oper} {env : Env} {O : Heap} {nx : Nat} {W : Option R} {K : DV → List Blk → Option R} {r : R}

theorem bits_run {op : BinOp} {k : IntKind} {a b n : Int} (h : bitsD op k a b = some n) {P : Program} {w : World} : (Op.intBits op k a b).run P w = .ok (.int k n) w := by
  cases op <;> simp [bitsD] at h <;> subst h <;> simp [Op.intBits]

theorem intBin_kind {R : Type} {op : BinOp} {k k' : IntKind} {a b : Int} {K : DV → Option R} {r : R} (h1 : op ≠ .shl) (h2 : op ≠ .shr) (h : intBin op k k' a b K = some r) : k = k' := by
  by_cases hk : k = k'
  · exact hk
  · cases op <;> simp_all [intBin]

theorem intBin_run {R : Type} {op : BinOp} {k k' : IntKind} {a b : Int} {K : DV → Option R} {r : R} (h : intBin op k k' a b K = some r) :
    ∃ d v, K d = some r ∧ (∀ (P : Program) (w : World) (T : TypeId), (binOp op T (.int k a) (.int k' b)).run P w = .ok v w) ∧ ∀ m, VR m d v := by
  have bits : ∀ op, k = k' → (match bitsD op k a b with | some n => K (.dat (.int k) n) | none => none) = some r →
      (∀ (P : Program) (w : World) (T : TypeId), (binOp op T (.int k a) (.int k b)).run P w = (Op.intBits op k a b).run P w) →
      ∃ d v, K d = some r ∧ (∀ (P : Program) (w : World) (T : TypeId), (binOp op T (.int k a) (.int k' b)).run P w = .ok v w) ∧ ∀ m, VR m d v := by
    intro op hk hq hb
    subst hk
    split at hq
    · rename_i n hn
      exact ⟨_, .int k n, hq, fun P w T => (hb P w T).trans (bits_run hn), fun m => dat_int _ _⟩
    · simp at hq
  cases op
  case shl =>
    simp only [intBin] at h
    by_cases hb : b < 0
    · simp [hb] at h
    · simp [hb] at h
      exact ⟨_, .int k (k.wrap (a * 2 ^ min b.toNat k.bits)), h, fun P w T => by simp [binOp, Op.shift, hb], fun m => dat_int _ _⟩
  case shr =>
    simp only [intBin] at h
    by_cases hb : b < 0
    · simp [hb] at h
    · simp [hb] at h
      exact ⟨_, .int k (a.fdiv (2 ^ min b.toNat k.bits)), h, fun P w T => by simp [binOp, Op.shift, hb], fun m => dat_int _ _⟩
  case add => obtain rfl := intBin_kind (by simp) (by simp) h; simp [intBin] at h; exact ⟨_, .int k (k.wrap (a + b)), h, fun P w T => by simp [binOp, Op.intArith], fun m => dat_int _ _⟩
  case sub => obtain rfl := intBin_kind (by simp) (by simp) h; simp [intBin] at h; exact ⟨_, .int k (k.wrap (a - b)), h, fun P w T => by simp [binOp, Op.intArith], fun m => dat_int _ _⟩
  case mul => obtain rfl := intBin_kind (by simp) (by simp) h; simp [intBin] at h; exact ⟨_, .int k (k.wrap (a * b)), h, fun P w T => by simp [binOp, Op.intArith], fun m => dat_int _ _⟩
  case quo =>
    obtain rfl := intBin_kind (by simp) (by simp) h
    by_cases hb : b = 0
    · subst hb; simp [intBin] at h
    · have hb' : (b == 0) = false := by simpa using hb
      simp only [intBin, decide_true, cond_true, hb', cond_false] at h
      exact ⟨_, .int k (k.wrap (a.tdiv b)), h, fun P w T => by simp [binOp, Op.intDiv, hb], fun m => dat_int _ _⟩
  case rem =>
    obtain rfl := intBin_kind (by simp) (by simp) h
    by_cases hb : b = 0
    · subst hb; simp [intBin] at h
    · have hb' : (b == 0) = false := by simpa using hb
      simp only [intBin, decide_true, cond_true, hb', cond_false] at h
      exact ⟨_, .int k (a.tmod b), h, fun P w T => by simp [binOp, Op.intDiv, hb], fun m => dat_int _ _⟩
  case eql => obtain rfl := intBin_kind (by simp) (by simp) h; simp [intBin] at h; exact ⟨_, .bool (a == b), h, fun P w T => by simp [binOp, Op.intCmp], fun m => dat_bool _⟩
  case neq => obtain rfl := intBin_kind (by simp) (by simp) h; simp [intBin] at h; exact ⟨_, .bool (a != b), h, fun P w T => by simp [binOp, Op.intCmp], fun m => dat_bool _⟩
  case lss => obtain rfl := intBin_kind (by simp) (by simp) h; simp [intBin] at h; exact ⟨_, .bool (decide (a < b)), h, fun P w T => by simp [binOp, Op.intCmp], fun m => dat_bool _⟩
  case leq => obtain rfl := intBin_kind (by simp) (by simp) h; simp [intBin] at h; exact ⟨_, .bool (decide (a ≤ b)), h, fun P w T => by simp [binOp, Op.intCmp], fun m => dat_bool _⟩
  case gtr => obtain rfl := intBin_kind (by simp) (by simp) h; simp [intBin] at h; exact ⟨_, .bool (decide (a > b)), h, fun P w T => by simp [binOp, Op.intCmp], fun m => dat_bool _⟩
  case geq => obtain rfl := intBin_kind (by simp) (by simp) h; simp [intBin] at h; exact ⟨_, .bool (decide (a ≥ b)), h, fun P w T => by simp [binOp, Op.intCmp], fun m => dat_bool _⟩
  case and => obtain hk := intBin_kind (by simp) (by simp) h; simp only [intBin, hk, decide_true, cond_true] at h; rw [← hk] at h; exact bits _ hk h fun P w T => by simp [binOp]
  case or => obtain hk := intBin_kind (by simp) (by simp) h; simp only [intBin, hk, decide_true, cond_true] at h; rw [← hk] at h; exact bits _ hk h fun P w T => by simp [binOp]
  case xor => obtain hk := intBin_kind (by simp) (by simp) h; simp only [intBin, hk, decide_true, cond_true] at h; rw [← hk] at h; exact bits _ hk h fun P w T => by simp [binOp]
  case andNot => obtain hk := intBin_kind (by simp) (by simp) h; simp only [intBin, hk, decide_true, cond_true] at h; rw [← hk] at h; exact bits _ hk h fun P w T => by simp [binOp]

theorem eqD_run (hC : C.OK) {T : TypeId} {cst : Bool} {x y : DV} {b : Bool} (h : eqD C T cst x y = some b) {m : Mem} {v u : Value} (hv : VR m x v) (hu : VR m y u) :
    (∀ xo yo op, (isCst xo || isCst yo) = cst → (op = .eql ∨ op = .neq) → (eqGuard op T xo yo v u).run C.P m.w = .ok () m.w) ∧
    (binOp .eql T v u).run C.P m.w = .ok (.bool b) m.w ∧ (binOp .neq T v u).run C.P m.w = .ok (.bool (!b)) m.w := by
  unfold eqD at h
  split at h
  · rename_i p q
    split at h
    · rename_i hT
      simp at h
      subst h
      obtain rfl := of_bool hv
      obtain rfl := of_bool hu
      refine ⟨?_, ?_, ?_⟩
      · rintro xo yo op _ (rfl | rfl) <;> simp [eqGuard]
      · simp only [binOp]; simp [run_equal_bool m.w T p q hT]
      · simp only [binOp]; simp [run_equal_bool m.w T p q hT]
    · simp at h
  · rename_i p q
    simp at h
    subst h
    obtain rfl := of_str hv
    obtain rfl := of_str hu
    refine ⟨?_, ?_, ?_⟩
    · rintro xo yo op _ (rfl | rfl) <;> simp [eqGuard]
    · simp [binOp, Op.stringOp]
    · simp [binOp, Op.stringOp]
  · rename_i f p t q
    cases hT : C.EQ.contains T && decide (code C.P T = some (.st f)) <;> simp only [hT, cond_true, cond_false] at h
    · simp at h
    simp at hT
    split at h
    · rename_i q' hq
      obtain ⟨rfl, rfl⟩ := castEl_some hq
      obtain ⟨g1, g2⟩ := hC.eq T hT.1
      obtain ⟨cs, h1, rfl⟩ := of_st hv
      obtain ⟨ds, h2, rfl⟩ := of_st hu
      obtain ⟨rfl, rfl⟩ := eqEl_vals f _ _ _ h _ _ h1 h2
      have := g2 f hT.2 _ _ b h m.w
      refine ⟨?_, ?_, ?_⟩
      · rintro xo yo op _ (rfl | rfl) <;> simp [eqGuard, g1]
      · simp only [binOp]; simp [this]
      · simp only [binOp]; simp [this]
    · simp at h
  · split at h
    · rename_i ms hT
      cases cst <;> simp at h
      subst h
      simp only [VR] at hv hu
      subst hv
      subst hu
      have e : ∀ d : Nat, (Op.equalIn (d + 1) T .nilIface .nilIface).run C.P m.w = .ok true m.w := fun d => by simp [Op.equalIn, run_underlying hT]
      refine ⟨?_, ?_, ?_⟩
      · intro xo yo op hc ho
        have : ((xo matches .const _) || (yo matches .const _)) = true := by
          cases xo <;> cases yo <;> simp [isCst] at hc ⊢
        rcases ho with rfl | rfl <;> cases xo <;> cases yo <;> simp_all [eqGuard, isCst]
      · simp only [binOp]; simp [Op.equal, Op.maxDepth, e 9999]
      · simp only [binOp]; simp [Op.equal, Op.maxDepth, e 9999]
    · simp at h
  · split at h
    · rename_i ms hT
      simp at h
      subst h
      simp only [VR] at hv hu
      obtain ⟨z, rfl, _⟩ := hv
      subst hu
      rename_i tt _ _ _
      have e : ∀ d : Nat, (Op.equalIn (d + 1) T (.iface tt z) .nilIface).run C.P m.w = .ok false m.w := fun d => by simp [Op.equalIn, run_underlying hT]
      refine ⟨?_, ?_, ?_⟩
      · rintro xo yo op _ (rfl | rfl) <;> simp [eqGuard]
      · simp only [binOp]; simp [Op.equal, Op.maxDepth, e 9999]
      · simp only [binOp]; simp [Op.equal, Op.maxDepth, e 9999]
    · simp at h
  · split at h
    · rename_i ms hT
      simp at h
      subst h
      simp only [VR] at hv hu
      obtain ⟨z, rfl, _⟩ := hu
      subst hv
      rename_i tt _ _ _
      have e : ∀ d : Nat, (Op.equalIn (d + 1) T .nilIface (.iface tt z)).run C.P m.w = .ok false m.w := fun d => by simp [Op.equalIn, run_underlying hT]
      refine ⟨?_, ?_, ?_⟩
      · rintro xo yo op _ (rfl | rfl) <;> simp [eqGuard]
      · simp only [binOp]; simp [Op.equal, Op.maxDepth, e 9999]
      · simp only [binOp]; simp [Op.equal, Op.maxDepth, e 9999]
    · simp at h
  · rename_i tx x ty y
    split at h
    · rename_i ms hT
      simp only [VR] at hv hu
      obtain ⟨z, rfl, hz⟩ := hv
      obtain ⟨z', rfl, hz'⟩ := hu
      have fin : ∀ {q : Bool}, (∀ d : Nat, (Op.equalIn (d + 2) T (.iface tx z) (.iface ty z')).run C.P m.w = .ok q m.w) → q = b → (∀ xo yo op, (isCst xo || isCst yo) = cst → (op = .eql ∨ op = .neq) → (eqGuard op T xo yo (.iface tx z) (.iface ty z')).run C.P m.w = .ok () m.w) ∧
          (binOp .eql T (.iface tx z) (.iface ty z')).run C.P m.w = .ok (.bool b) m.w ∧ (binOp .neq T (.iface tx z) (.iface ty z')).run C.P m.w = .ok (.bool (!b)) m.w := by
        rintro q e rfl
        refine ⟨?_, ?_, ?_⟩
        · rintro xo yo op _ (rfl | rfl) <;> simp [eqGuard]
        · simp only [binOp]; simp [Op.equal, Op.maxDepth, e 9998]
        · simp only [binOp]; simp [Op.equal, Op.maxDepth, e 9998]
      cases ht : Nat.beq tx ty <;> simp only [ht, cond_true, cond_false] at h
      · have hne : tx ≠ ty := by rintro rfl; rw [Nat.beq_refl] at ht; simp at ht
        simp at h
        exact fin (q := false) (fun d => by simp [Op.equalIn, run_underlying hT, hne]) h.symm
      · have := Nat.eq_of_beq_eq_true ht
        subst this
        split at h
        · rename_i i a1 b1 hi hu1
          cases hc : i.comparable <;> simp only [hc, cond_true, cond_false] at h
          · simp at h
          simp at h
          obtain rfl := of_str hz
          obtain rfl := of_str hz'
          exact fin (fun d => by simp [Op.equalIn, run_underlying hT, run_underlying hu1, typeInfo, hi, hc]) h
        · rename_i i k0 k a1 k' b1 hi hu1
          cases hc : i.comparable && decide (k = k') <;> simp only [hc, cond_true, cond_false] at h
          · simp at h
          simp at h hc
          obtain ⟨hc, rfl⟩ := hc
          obtain rfl := of_int hz
          obtain rfl := of_int hz'
          exact fin (fun d => by simp [Op.equalIn, run_underlying hT, run_underlying hu1, typeInfo, hi, hc]) h
        · simp at h
    · simp at h
  · simp at h

theorem nil_run {P : Program} {T : TypeId} {e : TypeId} (hT : P.underlying T = some (.slice e)) (a : Option Addr) (l c : Nat) (w : World) :
    (binOp .eql T (.slice a l c) (.slice Option.none 0 0)).run P w = .ok (.bool a.isNone) w ∧ (binOp .neq T (.slice a l c) (.slice Option.none 0 0)).run P w = .ok (.bool (!a.isNone)) w := by
  have e : ∀ d : Nat, (Op.equalIn (d + 1) T (.slice a l c) (.slice Option.none 0 0)).run P w = .ok a.isNone w := fun d => by
    cases a <;> simp [Op.equalIn, run_underlying hT]
  constructor
  · simp only [binOp]; simp [Op.equal, Op.maxDepth, e 9999]
  · simp only [binOp]; simp [Op.equal, Op.maxDepth, e 9999]

theorem done_nil {op : BinOp} {T : TypeId} {x y : Operand} {yT : TypeId} (ho : o.op = .binOp op T x y yT) (hn : nilCmp C.P T y = true) (h : nilK op (opd env x) O (fun d => K d []) = some r) : Done C o env O nx W K r := by
  unfold nilCmp at hn
  split at hn
  case h_2 => simp at hn
  rename_i e hT
  have fin : ∀ (b : Bool) (d : DV), (op = .eql ∧ b = true ∨ op = .neq ∧ b = false) → K d [] = some r → (∀ (base : Nat) (w0 : World) (N0 : Nat → Prop) (m : Mem) (O' : Heap) (v : Value), MR base w0 N0 m O' → (∀ (n : Nat) B, B ≠ Blk.dead → O[n]? = some B → O'[n]? = some B) → VR m (opd env x) v → ∃ a l c, v = .slice a l c ∧ VR m d (.bool (if b then a.isNone else !a.isNone))) → Done C o env O nx W K r := by
    intro b d hb hk hv
    refine Done.pure hk fun base w0 N0 m O' a hm ha hO => ?_
    obtain ⟨aa, l, c, e1, e2⟩ := hv base w0 N0 m O' _ hm hO (ha x (by simp [ho, Op.operands]))
    have hy : a.eval (.const (.slice Option.none 0 0)) = .slice Option.none 0 0 := rfl
    obtain ⟨q1, q2⟩ := nil_run hT aa l c m.w
    rcases hb with ⟨rfl, rfl⟩ | ⟨rfl, rfl⟩
    · refine ⟨.bool aa.isNone, ?_, by simpa using e2⟩
      simp only [execOp, ho, e1, hy]
      simp [eqGuard, q1]
    · refine ⟨.bool (!aa.isNone), ?_, by simpa using e2⟩
      simp only [execOp, ho, e1, hy]
      simp [eqGuard, q2]
  have known : ∀ (b q : Bool) (v : Value) (m : Mem) (a : Option Addr) (l c : Nat), v = .slice a l c → a.isNone = q → ∃ a l c, v = .slice a l c ∧ VR m (.dat .bool (if b then q else !q)) (.bool (if b then a.isNone else !a.isNone)) := by
    rintro b q v m a l c rfl rfl
    exact ⟨a, l, c, rfl, dat_bool _⟩
  have unk : ∀ (b : Bool) (v : Value) (m : Mem) (a : Option Addr) (l c : Nat), v = .slice a l c → ∃ a l c, v = .slice a l c ∧ VR m .ub (.bool (if b then a.isNone else !a.isNone)) := by
    rintro b v m a l c rfl
    exact ⟨a, l, c, rfl, by simp only [VR]; exact ⟨_, rfl⟩⟩
  have data : ∀ (m : Mem) (t : Ty) (xs : List (El t)) (v : Value), VR m (.dat (.sl t) xs) v → ∃ a l c, v = .slice a l c ∧ (xs.isEmpty = false → a.isNone = false) := by
    intro m t xs v hv
    obtain ⟨a, l, c, h1, h2, h3, h4, h5⟩ := of_sl hv
    simp at h1
    refine ⟨a, l, c, h1, fun hx => ?_⟩
    rcases h5 with h5 | ⟨b, o, rfl, _⟩
    · rw [h5] at h2
      have := List.length_eq_zero_iff.1 h2.symm
      rw [this] at hx
      simp at hx
    · rfl
  have own : ∀ {n : Nat} {e : TypeId} {t : Ty} {xs : List (El t)} {base : Nat} {w0 : World} {N0 : Nat → Prop} {m : Mem} {O' : Heap} {v : Value}, MR base w0 N0 m O' → O'[n]? = some (.row e t xs) → VR m (.sl n) v → ∃ a l c, v = .slice a l c ∧ (xs.isEmpty = false → a.isNone = false) := by
    intro n e t xs base w0 N0 m O' v hm hO hv
    simp only [VR] at hv
    rcases hv with hv | ⟨hr, _⟩
    · have := (hm.dead n).1 hv.1
      rw [hO] at this
      simp at this
    · obtain ⟨B, q1, q2⟩ := hm.blk n v hr
      rw [hO] at q1
      simp at q1
      subst q1
      obtain ⟨vs, ⟨a, cap, rfl, _, q⟩, _⟩ := q2
      refine ⟨a, _, cap, rfl, fun hx => ?_⟩
      rcases q with ⟨_, q⟩ | ⟨b, _, rfl, _⟩
      · have := List.length_eq_zero_iff.1 q
        rw [this] at hx
        simp at hx
      · rfl
  unfold nilK at h
  split at h
  · split at h
    · rename_i hx
      refine fin true _ (.inl ⟨rfl, rfl⟩) h fun _ _ _ m _ v _ _ hv => ?_
      rw [hx] at hv
      simp only [VR] at hv
      exact known true true v m Option.none 0 0 hv rfl
    · rename_i t xs hx
      cases he : xs.isEmpty <;> simp only [he, cond_true, cond_false] at h
      · refine fin true _ (.inl ⟨rfl, rfl⟩) h fun _ _ _ m _ v _ _ hv => ?_
        rw [hx] at hv
        obtain ⟨a, l, c, e1, e2⟩ := data m t xs v hv
        exact known true false v m a l c e1 (e2 he)
      · refine fin true _ (.inl ⟨rfl, rfl⟩) h fun _ _ _ m _ v _ _ hv => ?_
        rw [hx] at hv
        obtain ⟨a, l, c, e1, e2⟩ := data m t xs v hv
        exact unk true v m a l c e1
    · rename_i n hx
      split at h
      · rename_i t xs hn
        cases he : xs.isEmpty <;> simp only [he, cond_true, cond_false] at h
        · refine fin true _ (.inl ⟨rfl, rfl⟩) h fun _ _ _ m _ v hm hO hv => ?_
          rw [hx] at hv
          obtain ⟨a, l, c, e1, e2⟩ := own hm (hO _ _ (by simp) hn) hv
          exact known true false v m a l c e1 (e2 he)
        · refine fin true _ (.inl ⟨rfl, rfl⟩) h fun _ _ _ m _ v hm hO hv => ?_
          rw [hx] at hv
          obtain ⟨a, l, c, e1, e2⟩ := own hm (hO _ _ (by simp) hn) hv
          exact unk true v m a l c e1
      · simp at h
    · simp at h
  · split at h
    · rename_i hx
      refine fin false _ (.inr ⟨rfl, rfl⟩) h fun _ _ _ m _ v _ _ hv => ?_
      rw [hx] at hv
      simp only [VR] at hv
      exact known false true v m Option.none 0 0 hv rfl
    · rename_i t xs hx
      cases he : xs.isEmpty <;> simp only [he, cond_true, cond_false] at h
      · refine fin false _ (.inr ⟨rfl, rfl⟩) h fun _ _ _ m _ v _ _ hv => ?_
        rw [hx] at hv
        obtain ⟨a, l, c, e1, e2⟩ := data m t xs v hv
        exact known false false v m a l c e1 (e2 he)
      · refine fin false _ (.inr ⟨rfl, rfl⟩) h fun _ _ _ m _ v _ _ hv => ?_
        rw [hx] at hv
        obtain ⟨a, l, c, e1, e2⟩ := data m t xs v hv
        exact unk false v m a l c e1
    · rename_i n hx
      split at h
      · rename_i t xs hn
        cases he : xs.isEmpty <;> simp only [he, cond_true, cond_false] at h
        · refine fin false _ (.inr ⟨rfl, rfl⟩) h fun _ _ _ m _ v hm hO hv => ?_
          rw [hx] at hv
          obtain ⟨a, l, c, e1, e2⟩ := own hm (hO _ _ (by simp) hn) hv
          exact known false false v m a l c e1 (e2 he)
        · refine fin false _ (.inr ⟨rfl, rfl⟩) h fun _ _ _ m _ v hm hO hv => ?_
          rw [hx] at hv
          obtain ⟨a, l, c, e1, e2⟩ := own hm (hO _ _ (by simp) hn) hv
          exact unk false v m a l c e1
      · simp at h
    · simp at h
  · simp at h

theorem done_binOp (hC : C.OK) {op : BinOp} {T : TypeId} {x y : Operand} {yT : TypeId} (ho : o.op = .binOp op T x y yT) (h : evR C o env O nx W K = some r) : Done C o env O nx W K r := by
  simp only [evR, ho] at h
  cases hn : nilCmp C.P T y <;> simp only [hn, cond_true, cond_false] at h
  case true => exact done_nil ho hn h
  unfold binD at h
  split at h
  · rename_i k p k' q hx hy
    obtain ⟨d, v, h1, h2, h3⟩ := intBin_run h
    refine Done.pure h1 fun _ _ _ m _ a _ ha _ => ⟨v, ?_, h3 m⟩
    have hp := ha x (by simp [ho, Op.operands])
    have hq := ha y (by simp [ho, Op.operands])
    rw [hx] at hp
    rw [hy] at hq
    have e1 := of_int hp
    have e2 := of_int hq
    have := h2 C.P m.w T
    simp only [execOp, ho, e1, e2]
    have g : (eqGuard op T x y (.int k p) (.int k' q)).run C.P m.w = .ok () m.w := by
      cases op <;> simp [eqGuard]
    simp [g, this]
  · rename_i hne
    split at h
    · split at h
      · rename_i b hb
        refine Done.pure h fun _ _ _ m _ a _ ha _ => ⟨.bool b, ?_, dat_bool _⟩
        obtain ⟨g1, g2, g3⟩ := eqD_run hC hb (ha x (by simp [ho, Op.operands])) (ha y (by simp [ho, Op.operands]))
        simp only [execOp, ho]
        simp [g1 x y .eql rfl (.inl rfl), g2]
      · simp at h
    · split at h
      · rename_i b hb
        refine Done.pure h fun _ _ _ m _ a _ ha _ => ⟨.bool (!b), ?_, dat_bool _⟩
        obtain ⟨g1, g2, g3⟩ := eqD_run hC hb (ha x (by simp [ho, Op.operands])) (ha y (by simp [ho, Op.operands]))
        simp only [execOp, ho]
        simp [g1 x y .neq rfl (.inr rfl), g3]
      · simp at h
    · simp at h

theorem done_convert {s d : TypeId} {x : Operand} (ho : o.op = .convert s d x) (h : evR C o env O nx W K = some r) : Done C o env O nx W K r := by
  simp only [evR, ho] at h
  split at h
  · rename_i k0 k k1 n h1 h2 h3
    refine Done.pure h fun _ _ _ m _ a _ ha _ => ⟨.int k (k.wrap n), ?_, dat_int _ _⟩
    have hp := ha x (by simp [ho, Op.operands])
    rw [h3] at hp
    have := of_int hp
    simp [execOp, ho, this, convert, run_underlying h1, run_underlying h2, Conv.intToInt]
  · rename_i b h1 h2 h3
    refine Done.pure h fun _ _ _ m _ a _ ha _ => ⟨.string b, ?_, dat_str _⟩
    have hp := ha x (by simp [ho, Op.operands])
    rw [h3] at hp
    have := of_str hp
    simp [execOp, ho, this, convert, run_underlying h1, run_underlying h2]
  · simp at h
end
end Go.AM
