/- DERIVED. NO CLAIM IN IT. What a function gives; how the plain machine's states stand to the model's. -/
import Derived.Test.YtigfnidgpmfneaaAmSim2
set_option linter.unusedVariables false
set_option linter.unusedSimpArgs false
namespace Go.AM
open Go.RowKit

theorem load_rel {P : Program} {base : Nat} {w0 : World} {N0 : Nat → Prop} {m : Mem} {O : Heap} (hm : MR base w0 N0 m O) {T : TypeId} {d : DV} {u : Value} (hok : loadOk P O T d = true) (hd : VR m d u) :
    ∃ b of v, u = .pointer (some ⟨b, of, none⟩) ∧ (loadVar T ⟨b, of, none⟩).run P m.w = .ok v m.w ∧ VR m (mkVal P T (cellsAt O (P.cellsOf T) d)) v := by
  simp only [loadOk, Bool.and_eq_true, Nat.blt_eq] at hok
  obtain ⟨⟨⟨h0, h1⟩, h2⟩, h3⟩ := hok
  obtain ⟨du, hdu⟩ := Option.isSome_iff_exists.1 h3
  have h1 := Nat.eq_of_beq_eq_true h1
  obtain ⟨b, of, vs, hv, hr, hl⟩ := cellsAt_rel hm (fun _ _ h => h) hd h0 h1
  obtain ⟨i, hi, hs⟩ := info_of_cells h0
  have hlen : vs.length = P.cellsOf T := by have := hl.len; omega
  cases hg : aggT P T with
  | true =>
    have hu : ∃ d, P.underlying T = some d ∧ d.isRow = true := by
      refine ⟨du, hdu, ?_⟩
      unfold aggT at hg
      rw [hdu] at hg
      cases du <;> simp_all
    obtain ⟨d', hu, hd'⟩ := hu
    refine ⟨b, of, .agg vs.toArray, hv, ?_, ?_⟩
    · have := run_loadAt_mid (P := P) m.w b of T vs d' hr hu hd' (by simp [hi]; omega)
      simpa [Instr.loadAt, Instr.sureAddr] using this
    · simp only [mkVal, hg, cond_true]
      exact mkAgg_rel P T (by simpa using hl)
  | false =>
    simp only [hg, Bool.false_or] at h2
    have h2 := Nat.eq_of_beq_eq_true h2
    obtain ⟨v, rfl⟩ : ∃ v, vs = [v] := by
      match vs, hlen with
      | [v], _ => exact ⟨v, rfl⟩
      | [], h => simp at h; omega
      | _ :: _ :: _, h => simp at h; omega
    obtain ⟨d', hd'⟩ : ∃ d', cellsAt O (P.cellsOf T) d = [d'] := by
      match hcs : cellsAt O (P.cellsOf T) d, h1 with
      | [d], _ => exact ⟨d, rfl⟩
      | [], h => simp at h; omega
      | _ :: _ :: _, h => simp at h; omega
    rw [hd'] at hl
    simp only [VRL] at hl
    obtain ⟨v', vr, e, hl1, hl2⟩ := hl
    simp at e
    obtain ⟨rfl, rfl⟩ := e
    have hcell : m.w.cell? ⟨b, of, none⟩ = some v := by simpa using hr 0 v (by simp)
    have hag : (isAgg T).run P m.w = .ok false m.w := by rw [isAgg_run hdu, hg]
    refine ⟨b, of, v, hv, ?_, ?_⟩
    · simp [loadVar, hag, hcell]
    · rw [hd']
      simpa only [mkVal, hg, cond_false] using hl1

def resF (tmps : Array Value) : ResultVar → Sem Value
  | .tmp t => pure (tmps.getD t undef)
  | .cell a t => do loadVar t (← asAddr (tmps.getD a undef))

theorem results_list {P : Program} {base : Nat} {w0 : World} {N0 : Nat → Prop} {m : Mem} {O : Heap} (hm : MR base w0 N0 m O) {env : Env} {a : Act} (he : ER m env a) : ∀ (l : List ResultVar), resOk P env O l = true →
    ∃ vs, (l.mapM (resF a.tmps)).run P m.w = .ok vs m.w ∧ VRL m (resultsD P env O l) vs
  | [], _ => ⟨[], by simp, by simp [resultsD, VRL]⟩
  | .tmp t :: r, h => by
    obtain ⟨vs, h1, h2⟩ := results_list hm he r (by simpa [resOk] using h)
    refine ⟨a.tmps.getD t undef :: vs, ?_, ?_⟩
    · have h0 : (resF a.tmps (.tmp t)).run P m.w = .ok (a.tmps.getD t undef) m.w := by simp [resF]
      rw [List.mapM_cons]
      simp only [Sem.run_bind, h0, Sem.run_pure, Result.andThen_ok, h1]
    · simp only [resultsD, VRL]
      exact ⟨_, _, rfl, he t, h2⟩
  | .cell x T :: r, h => by
    simp only [resOk, Bool.and_eq_true] at h
    obtain ⟨vs, h1, h2⟩ := results_list hm he r h.2
    obtain ⟨b, of, v, e1, e2, e3⟩ := load_rel hm h.1 (he x)
    refine ⟨v :: vs, ?_, ?_⟩
    · have h0 : (resF a.tmps (.cell x T)).run P m.w = .ok v m.w := by
        simp only [resF, Sem.run_bind, e1]
        simp [asAddr, e2]
      rw [List.mapM_cons]
      simp only [Sem.run_bind, h0, Sem.run_pure, Result.andThen_ok, h1]
    · simp only [resultsD, VRL]
      exact ⟨_, _, rfl, e3, h2⟩

theorem results_eq (fn : Func) (tmps : Array Value) : results fn tmps = (do
    let vs ← fn.results.mapM (resF tmps)
    pure (if h : vs.size = 1 then vs[0] else .tuple vs)) := by
  unfold results
  congr 1

theorem results_rel {P : Program} {base : Nat} {w0 : World} {N0 : Nat → Prop} {m : Mem} {O : Heap} (hm : MR base w0 N0 m O) {env : Env} {a : Act} (he : ER m env a) (fn : Func) (h : resOk P env O fn.results.toList = true) :
    ∃ v, (results fn a.tmps).run P m.w = .ok v m.w ∧ VR m (tupD (resultsD P env O fn.results.toList)) v := by
  obtain ⟨vs, h1, h2⟩ := results_list hm he _ h
  rw [results_eq, Array.mapM_eq_mapM_toList]
  simp only [map_eq_pure_bind, Sem.run_bind, Sem.run_pure, Result.andThen_ok, h1]
  refine ⟨_, rfl, ?_⟩
  have hl := h2.len
  match hds : resultsD P env O fn.results.toList, vs, h2, hl with
  | [], [], h2, _ => simp only [tupD]; simp [VR, VRL]
  | [d], [v], h2, _ => simp only [VRL] at h2; obtain ⟨_, _, e, q, _⟩ := h2; simp at e; obtain ⟨rfl, _⟩ := e; simpa [tupD] using q
  | d :: d' :: r, v :: v' :: r', h2, _ =>
    simp only [tupD, VR]
    simp
    exact h2

/-! ### States -/
def RegRel (reg : Array Oper) (i : Nat) (draw : Bool) (rest : List Nat) : Prop :=
  match draw with
  | false => rest = List.range' i (reg.size - i)
  | true => regOk reg = true ∧ Ord reg (fun s => s < i) rest

inductive TRel : List It → List Item → Prop
  | nil : TRel [] []
  | code (c : Code) {k k'} : TRel k k' → TRel (.code c :: k) (.code c :: k')
  | inBlock (id : Nat) {k k'} : TRel k k' → TRel (.inBlock id :: k) (.inBlock id :: k')
  | inLoop (c : Code) {k k'} : TRel k k' → TRel (.inLoop c :: k) (.inLoop c :: k')
  | inScope (c : Code) {k k'} : TRel k k' → TRel (.inScope c :: k) (.inScope c :: k')
  | ops {reg i draw rest k k'} : RegRel reg i draw rest → TRel k k' → TRel (.ops reg i draw :: k) (.inRegion reg rest :: k')

structure FRel (m : Mem) (fr : Fr) (b : Frame) (a : Act) : Prop where
  fn : b.fn = fr.fn
  kind : b.kind = .normal
  defers : a.defers = []
  nt : fr.nt ≤ a.tmps.size
  er : ER m fr.env a

def CRel (m : Mem) (c : Fr) (fc : Frame) : Prop :=
  ∃ reg i draw k b a rest k' o, c.todo = .ops reg i draw :: k ∧ reg[i]? = some o ∧ dstOk o.dst c.nt = true ∧ fc = b.at a (.inRegion reg (i :: rest) :: k') ∧ FRel m c b a ∧ RegRel reg (i + 1) draw rest ∧ TRel k k'

def StRel (m : Mem) : List Fr → List Frame → Prop
  | [], cs => cs = []
  | c :: r, cs => ∃ fc fr, cs = fc :: fr ∧ CRel m c fc ∧ StRel m r fr

theorem FRel.keep {m m' : Mem} (he : Ext m m') {fr : Fr} {b : Frame} {a : Act} (h : FRel m fr b a) : FRel m' fr b a := ⟨h.fn, h.kind, h.defers, h.nt, h.er.keep he⟩

theorem CRel.keep {m m' : Mem} (he : Ext m m') {c : Fr} {fc : Frame} (h : CRel m c fc) : CRel m' c fc := by
  obtain ⟨reg, i, draw, k, b, a, rest, k', o, h1, h2, h3, h4, h5, h6⟩ := h
  exact ⟨reg, i, draw, k, b, a, rest, k', o, h1, h2, h3, h4, h5.keep he, h6⟩

theorem StRel.keep {m m' : Mem} (he : Ext m m') : ∀ {st : List Fr} {cs : List Frame}, StRel m st cs → StRel m' st cs
  | [], _, h => h
  | c :: r, _, ⟨fc, fr, h1, h2, h3⟩ => ⟨fc, fr, h1, h2.keep he, StRel.keep he h3⟩

theorem exit_rel {id : Nat} : ∀ {k : List It} {k' : List Item} {q : List It}, TRel k k' → exitIt id k = some q → ∃ q', exitTo id k' = some q' ∧ TRel q q'
  | _, _, q, .nil, h => by simp [exitIt] at h
  | _, _, q, .code c hk, h => by simpa [exitTo] using exit_rel hk (by simpa [exitIt] using h)
  | _, _, q, .inLoop c hk, h => by simpa [exitTo] using exit_rel hk (by simpa [exitIt] using h)
  | _, _, q, .inScope c hk, h => by simpa [exitTo] using exit_rel hk (by simpa [exitIt] using h)
  | _, _, q, .ops _ hk, h => by simpa [exitTo] using exit_rel hk (by simpa [exitIt] using h)
  | _, _, q, .inBlock id' hk, h => by
    simp only [exitIt] at h
    cases hb : Nat.beq id' id <;> simp only [hb, cond_true, cond_false] at h
    · have : ¬ id' = id := by rintro rfl; rw [Nat.beq_refl] at hb; simp at hb
      simpa [exitTo, this] using exit_rel hk h
    · have := Nat.eq_of_beq_eq_true hb
      simp at h
      subst h
      exact ⟨_, by simp [exitTo, this], hk⟩

section
variable {R : Type}
/-- The plain machine's answer is the model's. -/
def Good (C : Ctx) (fin : DV → Heap → Option R) (fr : Fr) (st : List Fr) (O : Heap) (r : R) : Prop :=
  ∀ (base : Nat) (w0 : World) (N0 : Nat → Prop) (m : Mem) (b : Frame) (a : Act) (k' : List Item) (cs bot : List Frame), MR base w0 N0 m O → FRel m fr b a → TRel fr.todo k' → StRel m st cs →
    ∃ d O' m' v frE, fin d O' = some r ∧ Steps C.P (lone (b.at a k') (cs ++ bot) m.w) (lone frE bot m'.w) ∧ some frE.fn = (fr.fn :: st.map (·.fn)).getLast? ∧ frE.leaving C.P m'.w (.returned v) ∧ MR base w0 N0 m' O' ∧ VR m' d v

variable {C : Ctx} {fin : DV → Heap → Option R} {fr fr' : Fr} {st st' : List Fr} {O O' : Heap} {r : R}

theorem Good.of (hg : Good C fin fr' st' O' r) (hfn : (fr.fn :: st.map (·.fn)).getLast? = (fr'.fn :: st'.map (·.fn)).getLast?)
    (h : ∀ (base : Nat) (w0 : World) (N0 : Nat → Prop) (m : Mem) (b : Frame) (a : Act) (k' : List Item) (cs bot : List Frame), MR base w0 N0 m O → FRel m fr b a → TRel fr.todo k' → StRel m st cs →
      ∃ m' b' a' q' cs', Steps C.P (lone (b.at a k') (cs ++ bot) m.w) (lone (b'.at a' q') (cs' ++ bot) m'.w) ∧ MR base w0 N0 m' O' ∧ FRel m' fr' b' a' ∧ TRel fr'.todo q' ∧ StRel m' st' cs') : Good C fin fr st O r := by
  intro base w0 N0 m b a k' cs bot h1 h2 h3 h4
  obtain ⟨m', b', a', q', cs', s, g1, g2, g3, g4⟩ := h base w0 N0 m b a k' cs bot h1 h2 h3 h4
  obtain ⟨d, O'', m'', v, frE, e1, e2, e3, e4, e5, e6⟩ := hg base w0 N0 m' b' a' q' cs' bot g1 g2 g3 g4
  exact ⟨d, O'', m'', v, frE, e1, s.trans e2, by rw [hfn]; exact e3, e4, e5, e6⟩

/-- A step within the text, that touches nothing but what is left to do. -/
theorem Good.todo {k : List It} (hg : Good C fin { fr with todo := k } st O r) (h : ∀ (b : Frame) (a : Act) (k' : List Item) (cs : List Frame) (m : Mem), FRel m fr b a → TRel fr.todo k' → ∃ q', Steps C.P (lone (b.at a k') cs m.w) (lone (b.at a q') cs m.w) ∧ TRel k q') : Good C fin fr st O r := by
  refine Good.of hg rfl fun base w0 N0 m b a k' cs bot h1 h2 h3 h4 => ?_
  obtain ⟨q', s, hq⟩ := h b a k' (cs ++ bot) m h2 h3
  exact ⟨m, b, a, q', cs, s, h1, ⟨h2.fn, h2.kind, h2.defers, h2.nt, h2.er⟩, hq, h4⟩
end
end Go.AM
