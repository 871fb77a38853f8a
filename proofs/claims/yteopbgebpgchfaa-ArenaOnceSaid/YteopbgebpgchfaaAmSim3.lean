/- DERIVED. NO CLAIM IN IT. What a function gives; how the plain machine's states stand to the model's. -/
import Derived.Test.YteopbgebpgchfaaAmSim2
set_option linter.unusedVariables false
set_option linter.unusedSimpArgs false
namespace Go.AM
open Go.RowKit

theorem load_rel {P : Program} {base : Nat} {w0 : World} {N0 : Nat → Prop} {m : Mem} {O : Heap} (hm : MR base w0 N0 m O) {T : TypeId} {d : DV} {u : Value} (hok : loadOk P O T d = true) (hd : VR m d u) :
    ∃ b of v, u = .pointer (some ⟨b, of, none⟩) ∧ (loadVar T ⟨b, of, none⟩).run P m.w = .ok v m.w ∧ VR m (mkVal P T (cellsAt O (P.cellsOf T) d)) v := by
  simp only [loadOk, Bool.and_eq_true, Nat.blt_eq] at hok
  obtain ⟨⟨⟨h0, h1⟩, h2⟩, h3⟩ := hok
  obtain ⟨du, hdu⟩ := Option.isSome_iff_exists.1 h3
  have h1 := Nat.eq_of_beq_eq_true h1
  obtain ⟨b, of, vs, hv, hr, hl⟩ := cellsAt_rel hm (fun _ _ _ h => h) hd h0 h1
  obtain ⟨i, hi, hs⟩ := info_of_cells h0
  have hlen : vs.length = P.cellsOf T := by have := hl.len; omega
  cases hg : aggT P T with
  | true =>
    have hu : ∃ d, P.underlying T = some d ∧ d.isRow = true := by
      refine ⟨du, hdu, ?_⟩
      unfold aggT at hg
      rw [hdu] at hg
      cases du <;> simp_all
    obtain ⟨d', hu, hd'⟩ := hu
    refine ⟨b, of, .agg vs.toArray, hv, ?_, ?_⟩
    · have := run_loadAt_mid (P := P) m.w b of T vs d' hr hu hd' (by simp [hi]; omega)
      simpa [Instr.loadAt, Instr.sureAddr] using this
    · simp only [mkVal, hg, cond_true]
      exact mkAgg_rel P T (by simpa using hl)
  | false =>
    simp only [hg, Bool.false_or] at h2
    have h2 := Nat.eq_of_beq_eq_true h2
    obtain ⟨v, rfl⟩ : ∃ v, vs = [v] := by
      match vs, hlen with
      | [v], _ => exact ⟨v, rfl⟩
      | [], h => simp at h; omega
      | _ :: _ :: _, h => simp at h; omega
    obtain ⟨d', hd'⟩ : ∃ d', cellsAt O (P.cellsOf T) d = [d'] := by
      match hcs : cellsAt O (P.cellsOf T) d, h1 with
      | [d], _ => exact ⟨d, rfl⟩
      | [], h => simp at h; omega
      | _ :: _ :: _, h => simp at h; omega
    rw [hd'] at hl
    simp only [VRL] at hl
    obtain ⟨v', vr, e, hl1, hl2⟩ := hl
    simp at e
    obtain ⟨rfl, rfl⟩ := e
    have hcell : m.w.cell? ⟨b, of, none⟩ = some v := by simpa using hr 0 v (by simp)
    have hag : (isAgg T).run P m.w = .ok false m.w := by rw [isAgg_run hdu, hg]
    refine ⟨b, of, v, hv, ?_, ?_⟩
    · simp [loadVar, hag, hcell]
    · rw [hd']
      simpa only [mkVal, hg, cond_false] using hl1

def resF (tmps : Array Value) : ResultVar → Sem Value
  | .tmp t => pure (tmps.getD t undef)
  | .cell a t => do loadVar t (← asAddr (tmps.getD a undef))

theorem results_list {P : Program} {base : Nat} {w0 : World} {N0 : Nat → Prop} {m : Mem} {O : Heap} (hm : MR base w0 N0 m O) {env : Env} {a : Act} (he : ER m env a) : ∀ (l : List ResultVar), resOk P env O l = true →
    ∃ vs, (l.mapM (resF a.tmps)).run P m.w = .ok vs m.w ∧ VRL m (resultsD P env O l) vs
  | [], _ => ⟨[], by simp, by simp [resultsD, VRL]⟩
  | .tmp t :: r, h => by
    obtain ⟨vs, h1, h2⟩ := results_list hm he r (by simpa [resOk] using h)
    refine ⟨a.tmps.getD t undef :: vs, ?_, ?_⟩
    · have h0 : (resF a.tmps (.tmp t)).run P m.w = .ok (a.tmps.getD t undef) m.w := by simp [resF]
      rw [List.mapM_cons]
      simp only [Sem.run_bind, h0, Sem.run_pure, Result.andThen_ok, h1]
    · simp only [resultsD, VRL]
      exact ⟨_, _, rfl, he t, h2⟩
  | .cell x T :: r, h => by
    simp only [resOk, Bool.and_eq_true] at h
    obtain ⟨vs, h1, h2⟩ := results_list hm he r h.2
    obtain ⟨b, of, v, e1, e2, e3⟩ := load_rel hm h.1 (he x)
    refine ⟨v :: vs, ?_, ?_⟩
    · have h0 : (resF a.tmps (.cell x T)).run P m.w = .ok v m.w := by
        simp only [resF, Sem.run_bind, e1]
        simp [asAddr, e2]
      rw [List.mapM_cons]
      simp only [Sem.run_bind, h0, Sem.run_pure, Result.andThen_ok, h1]
    · simp only [resultsD, VRL]
      exact ⟨_, _, rfl, e3, h2⟩

theorem results_eq (fn : Func) (tmps : Array Value) : results fn tmps = (do
    let vs ← fn.results.mapM (resF tmps)
    pure (if h : vs.size = 1 then vs[0] else .tuple vs)) := by
  unfold results
  congr 1

theorem results_rel {P : Program} {base : Nat} {w0 : World} {N0 : Nat → Prop} {m : Mem} {O : Heap} (hm : MR base w0 N0 m O) {env : Env} {a : Act} (he : ER m env a) (fn : Func) (h : resOk P env O fn.results.toList = true) :
    ∃ v, (results fn a.tmps).run P m.w = .ok v m.w ∧ VR m (tupD (resultsD P env O fn.results.toList)) v := by
  obtain ⟨vs, h1, h2⟩ := results_list hm he _ h
  rw [results_eq, Array.mapM_eq_mapM_toList]
  simp only [map_eq_pure_bind, Sem.run_bind, Sem.run_pure, Result.andThen_ok, h1]
  refine ⟨_, rfl, ?_⟩
  have hl := h2.len
  match hds : resultsD P env O fn.results.toList, vs, h2, hl with
  | [], [], h2, _ => simp only [tupD]; simp [VR, VRL]
  | [d], [v], h2, _ => simp only [VRL] at h2; obtain ⟨_, _, e, q, _⟩ := h2; simp at e; obtain ⟨rfl, _⟩ := e; simpa [tupD] using q
  | d :: d' :: r, v :: v' :: r', h2, _ =>
    simp only [tupD, VR]
    simp
    exact h2

/-! ### States -/
def RegRel (reg : Array Oper) (i : Nat) (draw : Bool) (rest : List Nat) : Prop :=
  match draw with
  | false => rest = List.range' i (reg.size - i)
  | true => regOk reg = true ∧ RegR reg i rest

/-- The frame as it is, and as it would be if all plain moves so far were done. -/
def VirtD (reg : Array Oper) (i : Nat) (draw : Bool) (rest : List Nat) (ra a : Act) : Prop :=
  match draw with
  | false => ra = a
  | true => VirtR reg i rest ra a

inductive TRel0 : List It → List Item → Prop
  | nil : TRel0 [] []
  | code (c : Code) {k k'} : TRel0 k k' → TRel0 (.code c :: k) (.code c :: k')
  | inBlock (id : Nat) {k k'} : TRel0 k k' → TRel0 (.inBlock id :: k) (.inBlock id :: k')
  | inLoop (c : Code) {k k'} : TRel0 k k' → TRel0 (.inLoop c :: k) (.inLoop c :: k')
  | inScope (c : Code) {k k'} : TRel0 k k' → TRel0 (.inScope c :: k) (.inScope c :: k')

/-- What is left to do, and the frame as it is against the frame as it would be. -/
inductive TRel (ra a : Act) : List It → List Item → Prop
  | top {k k'} : TRel0 k k' → ra = a → TRel ra a k k'
  | ops {reg i draw rest k k'} : RegRel reg i draw rest → VirtD reg i draw rest ra a → TRel0 k k' → TRel ra a (.ops reg i draw :: k) (.inRegion reg rest :: k')

theorem TRel.nil_inv {ra a : Act} {k' : List Item} (h : TRel ra a [] k') : ra = a ∧ k' = [] := by
  cases h with
  | top h e => cases h; exact ⟨e, rfl⟩
theorem TRel.code_inv {ra a : Act} {c : Code} {k : List It} {k' : List Item} (h : TRel ra a (.code c :: k) k') : ra = a ∧ ∃ kk, k' = .code c :: kk ∧ TRel0 k kk := by
  cases h with
  | top h e => cases h; exact ⟨e, _, rfl, by assumption⟩
theorem TRel.inBlock_inv {ra a : Act} {c : Nat} {k : List It} {k' : List Item} (h : TRel ra a (.inBlock c :: k) k') : ra = a ∧ ∃ kk, k' = .inBlock c :: kk ∧ TRel0 k kk := by
  cases h with
  | top h e => cases h; exact ⟨e, _, rfl, by assumption⟩
theorem TRel.inLoop_inv {ra a : Act} {c : Code} {k : List It} {k' : List Item} (h : TRel ra a (.inLoop c :: k) k') : ra = a ∧ ∃ kk, k' = .inLoop c :: kk ∧ TRel0 k kk := by
  cases h with
  | top h e => cases h; exact ⟨e, _, rfl, by assumption⟩
theorem TRel.inScope_inv {ra a : Act} {c : Code} {k : List It} {k' : List Item} (h : TRel ra a (.inScope c :: k) k') : ra = a ∧ ∃ kk, k' = .inScope c :: kk ∧ TRel0 k kk := by
  cases h with
  | top h e => cases h; exact ⟨e, _, rfl, by assumption⟩
theorem TRel.ops_inv {ra a : Act} {reg : Array Oper} {i : Nat} {draw : Bool} {k : List It} {k' : List Item} (h : TRel ra a (.ops reg i draw :: k) k') : ∃ rest kk, k' = .inRegion reg rest :: kk ∧ RegRel reg i draw rest ∧ VirtD reg i draw rest ra a ∧ TRel0 k kk := by
  cases h with
  | top h e => cases h
  | ops h1 h2 h3 => exact ⟨_, _, rfl, h1, h2, h3⟩

structure FRel (m : Mem) (fr : Fr) (b : Frame) (a : Act) : Prop where
  fn : b.fn = fr.fn
  kind : b.kind = .normal
  defers : a.defers = []
  nt : fr.nt ≤ a.tmps.size
  er : ER m fr.env a

def CRel (m : Mem) (c : Fr) (fc : Frame) : Prop :=
  ∃ reg i draw k b ra a rest k' o, c.todo = .ops reg i draw :: k ∧ reg[i]? = some o ∧ dstOk o.dst c.nt = true ∧ fc = b.at ra (.inRegion reg (i :: rest) :: k') ∧ FRel m c b a ∧ RegRel reg (i + 1) draw rest ∧ TRel0 k k' ∧
    ∀ v, VirtD reg (i + 1) draw rest (ra.put o.dst v) (a.put o.dst v)

def StRel (m : Mem) : List Fr → List Frame → Prop
  | [], cs => cs = []
  | c :: r, cs => ∃ fc fr, cs = fc :: fr ∧ CRel m c fc ∧ StRel m r fr

theorem FRel.keep {m m' : Mem} (he : Ext m m') {fr : Fr} {b : Frame} {a : Act} (h : FRel m fr b a) : FRel m' fr b a := ⟨h.fn, h.kind, h.defers, h.nt, h.er.keep he⟩

theorem CRel.keep {m m' : Mem} (he : Ext m m') {c : Fr} {fc : Frame} (h : CRel m c fc) : CRel m' c fc := by
  obtain ⟨reg, i, draw, k, b, ra, a, rest, k', o, h1, h2, h3, h4, h5, h6⟩ := h
  exact ⟨reg, i, draw, k, b, ra, a, rest, k', o, h1, h2, h3, h4, h5.keep he, h6⟩

theorem StRel.keep {m m' : Mem} (he : Ext m m') : ∀ {st : List Fr} {cs : List Frame}, StRel m st cs → StRel m' st cs
  | [], _, h => h
  | c :: r, _, ⟨fc, fr, h1, h2, h3⟩ => ⟨fc, fr, h1, h2.keep he, StRel.keep he h3⟩

theorem exit_rel {id : Nat} : ∀ {k : List It} {k' : List Item} {q : List It}, TRel0 k k' → exitIt id k = some q → ∃ q', exitTo id k' = some q' ∧ TRel0 q q'
  | _, _, q, .nil, h => by simp [exitIt] at h
  | _, _, q, .code c hk, h => by simpa [exitTo] using exit_rel hk (by simpa [exitIt] using h)
  | _, _, q, .inLoop c hk, h => by simpa [exitTo] using exit_rel hk (by simpa [exitIt] using h)
  | _, _, q, .inScope c hk, h => by simpa [exitTo] using exit_rel hk (by simpa [exitIt] using h)
  | _, _, q, .inBlock id' hk, h => by
    simp only [exitIt] at h
    cases hb : Nat.beq id' id <;> simp only [hb, cond_true, cond_false] at h
    · have : ¬ id' = id := by rintro rfl; rw [Nat.beq_refl] at hb; simp at hb
      simpa [exitTo, this] using exit_rel hk h
    · have := Nat.eq_of_beq_eq_true hb
      simp at h
      subst h
      exact ⟨_, by simp [exitTo, this], hk⟩

section
variable {R : Type}
/-- The plain machine's answer is the model's. -/
def Good (C : Ctx) (fin : DV → Heap → Option R) (fr : Fr) (st : List Fr) (O : Heap) (r : R) : Prop :=
  ∀ (base : Nat) (w0 : World) (N0 : Nat → Prop) (m : Mem) (b : Frame) (ra a : Act) (k' : List Item) (cs bot : List Frame), MR base w0 N0 m O → FRel m fr b a → TRel ra a fr.todo k' → StRel m st cs →
    ∃ d O' m' v frE, fin d O' = some r ∧ Steps C.P (lone (b.at ra k') (cs ++ bot) m.w) (lone frE bot m'.w) ∧ some frE.fn = (fr.fn :: st.map (·.fn)).getLast? ∧ frE.leaving C.P m'.w (.returned v) ∧ MR base w0 N0 m' O' ∧ VR m' d v

variable {C : Ctx} {fin : DV → Heap → Option R} {fr fr' : Fr} {st st' : List Fr} {O O' : Heap} {r : R}

theorem Good.of (hg : Good C fin fr' st' O' r) (hfn : (fr.fn :: st.map (·.fn)).getLast? = (fr'.fn :: st'.map (·.fn)).getLast?)
    (h : ∀ (base : Nat) (w0 : World) (N0 : Nat → Prop) (m : Mem) (b : Frame) (ra a : Act) (k' : List Item) (cs bot : List Frame), MR base w0 N0 m O → FRel m fr b a → TRel ra a fr.todo k' → StRel m st cs →
      ∃ m' b' ra' a' q' cs', Steps C.P (lone (b.at ra k') (cs ++ bot) m.w) (lone (b'.at ra' q') (cs' ++ bot) m'.w) ∧ MR base w0 N0 m' O' ∧ FRel m' fr' b' a' ∧ TRel ra' a' fr'.todo q' ∧ StRel m' st' cs') : Good C fin fr st O r := by
  intro base w0 N0 m b ra a k' cs bot h1 h2 h3 h4
  obtain ⟨m', b', ra', a', q', cs', s, g1, g2, g3, g4⟩ := h base w0 N0 m b ra a k' cs bot h1 h2 h3 h4
  obtain ⟨d, O'', m'', v, frE, e1, e2, e3, e4, e5, e6⟩ := hg base w0 N0 m' b' ra' a' q' cs' bot g1 g2 g3 g4
  exact ⟨d, O'', m'', v, frE, e1, s.trans e2, by rw [hfn]; exact e3, e4, e5, e6⟩

/-- A step within the text, that touches nothing but what is left to do. -/
theorem Good.todo {k : List It} (hg : Good C fin { fr with todo := k } st O r) (h : ∀ (b : Frame) (ra a : Act) (k' : List Item) (cs : List Frame) (m : Mem), FRel m fr b a → TRel ra a fr.todo k' → ∃ q', Steps C.P (lone (b.at ra k') cs m.w) (lone (b.at a q') cs m.w) ∧ TRel a a k q') : Good C fin fr st O r := by
  refine Good.of hg rfl fun base w0 N0 m b ra a k' cs bot h1 h2 h3 h4 => ?_
  obtain ⟨q', s, hq⟩ := h b ra a k' (cs ++ bot) m h2 h3
  exact ⟨m, b, a, a, q', cs, s, h1, ⟨h2.fn, h2.kind, h2.defers, h2.nt, h2.er⟩, hq, h4⟩

/-! ### An operation's turn -/
theorem Act.getD_put (a : Act) (dst : Option Nat) (v : Value) (t : Nat) : (a.put dst v).tmps.getD t undef = if dst = some t ∧ t < a.tmps.size then v else a.tmps.getD t undef := by
  cases dst with
  | none => simp [Act.put]
  | some d =>
    by_cases e : d = t
    · subst e
      by_cases h : d < a.tmps.size
      · simp [Act.put, h]
      · simp [Act.put, h]
    · simp [Act.put, Array.getD_eq_getD_getElem?, Array.getElem?_setIfInBounds, e]

theorem src_tmps {o : Oper} {ops : Array Oper} {y : Nat} (h : fsrc o.op = some (.tmp y)) : y ∈ tmpsOf o ops := by
  unfold fsrc at h
  split at h
  · rename_i x hop; simp at h; subst h; simp [tmpsOf, hop, Op.operands]
  · rename_i x j hop; simp at h; subst h; simp [tmpsOf, hop, Op.operands]
  · simp at h

/-- What such a step reads is there when it is next. -/
theorem virt_src {reg : Array Oper} (hok : regOk reg = true) {i h : Nat} {r : List Nat} {ra a : Act} (hcl : Closed reg (fun s => s < i ∧ s ∉ h :: r)) (hpend : ∀ q ∈ h :: r, q < i → floatOp reg q = true ∧ tailQ reg i = true)
    (q3 : ∀ o, reg[h]? = some o → ∀ e ∈ o.after, Region.binds .any e = true → e.on < i ∧ e.on ∉ h :: r) (hv : VirtR reg i (h :: r) ra a) {o : Oper} {x : Operand} {d : Nat} (ho : reg[h]? = some o) (hx : fsrc o.op = some x) (hd : o.dst = some d) (hself : x ≠ .tmp d)
    (huniq : ∀ (k : Nat) (q : Oper), k ≠ h → reg[k]? = some q → q.dst ≠ some d ∧ ∀ t, x = .tmp t → q.dst = some t → k < h ∨ (h < k ∧ ahead reg h k = true ∧ fsrc q.op = none)) : ra.eval x = a.eval x := by
  cases x with
  | tmp y =>
    refine (hv.2.2.2 y fun q hq hlt o2 ho2 hd2 => ?_).symm
    by_cases e : q = h
    · subst e
      rw [ho] at ho2
      simp at ho2
      subst ho2
      rw [hd] at hd2
      simp at hd2
      exact hself (by rw [hd2])
    · rcases (huniq q o2 e ho2).2 y rfl hd2 with h1 | ⟨_, _, h1⟩
      · rcases regOk_disj hok h1 ho2 ho with h2 | h2
        · exact (ahead_next hcl e q3 h2).2 hq
        · simp only [disj, hd2, Bool.and_eq_true] at h2
          have := h2.1.1
          simp at this
          exact this (src_tmps hx)
      · obtain ⟨o3, x3, d3, ho3, hx3, _⟩ := float_get (hpend q hq hlt).1
        rw [ho2] at ho3
        simp at ho3
        subst ho3
        rw [h1] at hx3
        simp at hx3
  | const c => rfl
  | global g => rfl
  | func f => rfl

/-- The plain moves that come first are done. -/
theorem lead {P : Program} {reg : Array Oper} (hok : regOk reg = true) {i : Nat} (hi : i < reg.size) (hq : quasi reg i = true) (b : Frame) (k' : List Item) (cs : List Frame) (w : World) :
    ∀ (rest : List Nat) (ra a : Act), RegR reg i rest → VirtR reg i rest ra a → ∃ rest' ra', Steps P (lone (b.at ra (.inRegion reg rest :: k')) cs w) (lone (b.at ra' (.inRegion reg (i :: rest') :: k')) cs w) ∧ RegR reg i (i :: rest') ∧ VirtR reg i (i :: rest') ra' a := by
  intro rest
  induction rest with
  | nil => intro ra a hr hv; exact absurd (hr.1 i hi).1 (by omega)
  | cons h r ih =>
    intro ra a hr hv
    obtain ⟨hord, hcl, hpend⟩ := hr
    have hord0 := hord
    obtain ⟨q1, q2, q3, q4⟩ := hord
    have hfresh := Ord.fresh hord0
    rcases Nat.lt_trichotomy h i with hlt | heq | hgt
    · obtain ⟨hfl, htl⟩ := hpend h (by simp) hlt
      obtain ⟨o, x, d, ho, hx, hd, hguard, hself, huniq⟩ := float_get hfl
      obtain ⟨hds, hdv⟩ := hv.2.2.1 h (by simp) hlt o d x ho hd hx
      rw [← virt_src hok hcl hpend q3 hv ho hx hd hself huniq] at hdv
      have hw : Region.wanted o (yielded reg ra.tmps) = true := by simp [Region.wanted, hguard]
      have hwp : o.wp P ra w (fun a' w' => a' = ra.put o.dst (a.tmps.getD d undef) ∧ w' = w) No := by
        unfold Oper.wp Oper.upon
        rw [fval_run hx hdv]
        exact ⟨rfl, rfl⟩
      obtain ⟨a', w', ⟨rfl, rfl⟩, hst⟩ := op_steps hwp ho hw b k' cs r
      have hiff : ∀ j, ((j < i ∧ j ∉ h :: r) ∨ j = h) ↔ (j < i ∧ j ∉ r) := by
        intro j
        constructor
        · rintro (⟨g1, g2⟩ | rfl)
          · exact ⟨g1, fun hm => g2 (List.mem_cons_of_mem _ hm)⟩
          · exact ⟨hlt, hfresh⟩
        · rintro ⟨g1, g2⟩
          by_cases e : j = h
          · exact .inr e
          · exact .inl ⟨g1, by simp [e, g2]⟩
      have hR : RegR reg i r := ⟨Ord.congr hiff q4, fun j o' e ho' hj he hb => (hiff _).1 (hcl.add q3 j o' e ho' ((hiff j).2 hj) he hb), fun q hq hlt => hpend q (List.mem_cons_of_mem _ hq) hlt⟩
      suffices hV : VirtR reg i r (ra.put o.dst (a.tmps.getD d undef)) a by
        obtain ⟨rest', ra', s1, s2, s3⟩ := ih (ra.put o.dst (a.tmps.getD d undef)) a hR hV
        exact ⟨rest', ra', hst.trans s1, s2, s3⟩
      refine ⟨by rw [put_size]; exact hv.1, by rw [put_defers']; exact hv.2.1, fun q hq hlt' o2 d2 x2 ho2 hd2 hx2 => ?_, fun t ht => ?_⟩
      · obtain ⟨k1, k2⟩ := hv.2.2.1 q (List.mem_cons_of_mem _ hq) hlt' o2 d2 x2 ho2 hd2 hx2
        exact ⟨by rw [put_size]; exact k1, k2⟩
      · rw [Act.getD_put]
        by_cases e : d = t
        · subst e
          rw [if_pos ⟨hd, hds⟩]
        · rw [if_neg (by rw [hd]; simp [e])]
          refine hv.2.2.2 t fun q hq hlt' o2 ho2 => ?_
          rcases List.mem_cons.1 hq with rfl | hq
          · rw [ho] at ho2
            simp at ho2
            subst ho2
            rw [hd]; simp [e]
          · exact ht q hq hlt' o2 ho2
    · subst heq
      exact ⟨r, ra, .refl _ _, ⟨hord0, hcl, hpend⟩, hv⟩
    · have := ahead_next hcl (by omega) q3 (quasi_hi hq hgt q1)
      exact absurd this.1 (by omega)

/-- An operation is next; what is there of its temps; what is left behind it. -/
theorem op_ready {P : Program} {reg : Array Oper} {i : Nat} {draw : Bool} {rest : List Nat} {ra a : Act} {o : Oper} (ho : reg[i]? = some o) (hal : draw = false ∨ fixed reg i = true) (hr : RegRel reg i draw rest) (hv : VirtD reg i draw rest ra a)
    (b : Frame) (k' : List Item) (cs : List Frame) (w : World) :
    ∃ rest' ra', Steps P (lone (b.at ra (.inRegion reg rest :: k')) cs w) (lone (b.at ra' (.inRegion reg (i :: rest') :: k')) cs w) ∧ (∀ t ∈ tmpsOf o reg, ra'.tmps.getD t undef = a.tmps.getD t undef) ∧ RegRel reg (i + 1) draw rest' ∧
      (∀ v, VirtD reg (i + 1) draw rest' (ra'.put o.dst v) (a.put o.dst v)) := by
  have hi : i < reg.size := (Array.getElem?_eq_some_iff.1 ho).1
  cases draw with
  | false =>
    simp only [RegRel] at hr
    simp only [VirtD] at hv
    subst hr
    subst hv
    obtain ⟨q, hq⟩ : ∃ q, reg.size - i = q + 1 := ⟨reg.size - i - 1, by omega⟩
    refine ⟨List.range' (i + 1) q, ra, by rw [hq, List.range'_succ]; exact .refl _ _, fun _ _ => rfl, ?_, fun v => rfl⟩
    simp only [RegRel]
    rw [show reg.size - (i + 1) = q by omega]
  | true =>
    have hfix := hal.resolve_left (by simp)
    obtain ⟨hok, hr⟩ := hr
    obtain ⟨rest', ra', s1, ⟨hord, hcl, hpend⟩, hv'⟩ := lead (P := P) hok hi (fixed_quasi hfix hi) b k' cs w rest ra a hr hv
    have hord0 := hord
    obtain ⟨q1, q2, q3, q4⟩ := hord
    have hfresh := Ord.fresh hord0
    have hiff : ∀ j, ((j < i ∧ j ∉ i :: rest') ∨ j = i) ↔ (j < i + 1 ∧ j ∉ rest') := by
      intro j
      constructor
      · rintro (⟨g1, g2⟩ | rfl)
        · exact ⟨by omega, fun hm => g2 (List.mem_cons_of_mem _ hm)⟩
        · exact ⟨by omega, hfresh⟩
      · rintro ⟨g1, g2⟩
        by_cases e : j = i
        · exact .inr e
        · exact .inl ⟨by omega, by simp [e, g2]⟩
    have hlt : ∀ q ∈ rest', q < i + 1 → q < i := fun q hq hl => by
      have : q ≠ i := by rintro rfl; exact hfresh hq
      omega
    -- a plain move that is not done yet has nothing to do with this one
    have apart : ∀ q ∈ rest', q < i → ∀ o2, reg[q]? = some o2 → disj o2 o reg = true := by
      intro q hq hl o2 ho2
      rcases regOk_disj hok hl ho2 ho with h | h
      · have := ahead_next hcl (by omega) q3 h
        exact (this.2 (List.mem_cons_of_mem _ hq)).elim
      · exact h
    refine ⟨rest', ra', s1, fun t ht => ?_, ⟨hok, Ord.congr hiff q4, fun j o' e ho' hj he hb => (hiff _).1 (hcl.add q3 j o' e ho' ((hiff j).2 hj) he hb), fun q hq hl => ?_⟩, fun v => ⟨by rw [put_size, put_size]; exact hv'.1, by rw [put_defers', put_defers']; exact hv'.2.1, fun q hq hl o2 d2 x2 ho2 hd2 hx2 => ?_, fun t ht => ?_⟩⟩
    · refine (hv'.2.2.2 t fun q hq hl o2 ho2 hd => ?_).symm
      have hq' : q ∈ rest' := by
        rcases List.mem_cons.1 hq with rfl | h
        · omega
        · exact h
      have := apart q hq' hl o2 ho2
      simp only [disj, hd, Bool.and_eq_true] at this
      have := this.1.1
      simp at this
      exact this ht
    · obtain ⟨g1, g2⟩ := hpend q (List.mem_cons_of_mem _ hq) (hlt q hq hl)
      exact ⟨g1, tailQ_succ g2⟩
    · have hl' := hlt q hq hl
      obtain ⟨k1, k2⟩ := hv'.2.2.1 q (List.mem_cons_of_mem _ hq) hl' o2 d2 x2 ho2 hd2 hx2
      obtain ⟨o3, x3, d3, ho3, hx3, hd3, _, _, huniq3⟩ := float_get (hpend q (List.mem_cons_of_mem _ hq) hl').1
      rw [ho2] at ho3
      simp at ho3
      subst ho3
      rw [hd2] at hd3
      simp at hd3
      subst hd3
      rw [hx2] at hx3
      simp at hx3
      subst hx3
      have hne : i ≠ q := by omega
      obtain ⟨u1, u2⟩ := huniq3 i o hne ho
      refine ⟨by rw [put_size]; exact k1, ?_⟩
      rw [Act.getD_put, if_neg (by rintro ⟨g, _⟩; exact u1 g), ← k2]
      congr 1
      cases x2 with
      | tmp y =>
        simp only [Act.eval]
        rw [Act.getD_put, if_neg]
        rintro ⟨g1, _⟩
        rcases u2 y rfl g1 with this | ⟨_, this, _⟩
        · omega
        · have := ahead_next hcl (by omega) q3 this
          exact this.2 (List.mem_cons_of_mem _ hq)
      | const c => rfl
      | global g => rfl
      | func f => rfl
    · rw [Act.getD_put, Act.getD_put, hv'.1]
      by_cases e : o.dst = some t ∧ t < a.tmps.size
      · rw [if_pos e, if_pos e]
      · rw [if_neg e, if_neg e]
        refine hv'.2.2.2 t fun q hq hl o2 ho2 => ?_
        rcases List.mem_cons.1 hq with rfl | hq
        · omega
        · exact ht q hq (by omega) o2 ho2
end
end Go.AM
