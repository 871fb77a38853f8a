/- DERIVED. NO CLAIM IN IT. Element addresses, make, calls that are told; all operations that read, reckon and make. -/
import Derived.Test.YteopbgebpgchfaaAmOps7
set_option linter.unusedVariables false
set_option linter.unusedSimpArgs false
namespace Go.AM
open Go.RowKit
section
variable {R : Type} {C : Ctx} {o : Oper} {env : Env} {O : Heap} {nx : Nat} {W : Option R} {K : DV → List Blk → Option R} {r : R}

theorem indexAt_slice {P : Program} {t e : TypeId} (ht : P.underlying t = some (.slice e)) {sz : Nat} {w : World} (hs : (sizeOf e).run P w = .ok sz w) {b q n cap : Nat} {k : IntKind} {i : Int} (h0 : 0 ≤ i) (h1 : i < n) :
    (Instr.indexAt t (.slice (some ⟨b, q, none⟩) n cap) (.int k i)).run P w = .ok (.pointer (some ⟨b, q + i.toNat * sz, none⟩)) w := by
  simp [Instr.indexAt, asIntOf, run_underlying ht, h0, h1, hs, Addr.add_mid]

theorem indexAt_array {P : Program} {t e : TypeId} {l : Nat} (ht : P.underlying t = some (.array l e)) {sz : Nat} {w : World} (hs : (sizeOf e).run P w = .ok sz w) {b q : Nat} {k : IntKind} {i : Int} (h0 : 0 ≤ i) (h1 : i < l) :
    (Instr.indexAt t (.pointer (some ⟨b, q, none⟩)) (.int k i)).run P w = .ok (.pointer (some ⟨b, q + i.toNat * sz, none⟩)) w := by
  simp [Instr.indexAt, asIntOf, run_underlying ht, h0, h1, hs, Addr.add_mid, Instr.sureAddr]

theorem done_indexAddr {T : TypeId} {x i : Operand} (ho : o.op = .indexAddr T x i) (h : evR C o env O nx W K = some r) : Done C o env O nx W K r := by
  simp only [evR, ho] at h
  unfold indexAddrD at h
  split at h
  · simp at h
  · rename_i iv hi
    have hiv : ∀ {m : Mem} {a : Act}, (∀ y ∈ o.op.operands, VR m (opd env y) (a.eval y)) → ∃ k, a.eval i = .int k iv := fun ha => intOf_rel hi (ha i (by simp [ho, Op.operands]))
    split at h
    · rename_i et hT
      cases hz : Nat.blt 0 (C.P.cellsOf et) <;> simp only [hz, cond_true, cond_false] at h
      · simp at h
      simp only [Nat.blt_eq] at hz
      obtain ⟨ii, hii, hs⟩ := info_of_cells hz
      have hsz : ∀ w, (sizeOf et).run C.P w = .ok (C.P.cellsOf et) w := fun w => by simp [sizeOf, typeInfo, hii, hs]
      split at h
      · rename_i e xs hx
        cases hc : Nat.beq (csz e) (C.P.cellsOf et) <;> simp only [hc, cond_true, cond_false] at h
        · simp at h
        have hc := Nat.eq_of_beq_eq_true hc
        cases hin : ins (α := El e) xs iv <;> simp only [hin, cond_true, cond_false] at h
        · simp at h
        obtain ⟨g0, g1, g2⟩ := rd_get (z := zel e) hin
        refine Done.pure h fun base w0 N0 m O' a hm ha hO => ?_
        have hv := ha x (by simp [ho, Op.operands])
        rw [hx] at hv
        obtain ⟨k, hk⟩ := hiv ha
        obtain ⟨aa, n, cap, h1, h2, h3, h4, h5⟩ := of_sl hv
        simp at h1
        rcases h5 with h5 | ⟨b, q, rfl, hb, hel⟩
        · omega
        obtain ⟨ecs, e1, e2⟩ := hel _ _ g2
        refine ⟨.pointer (some ⟨b, q + iv.toNat * C.P.cellsOf et, none⟩), ?_, ?_⟩
        · have := indexAt_slice (k := k) hT (hsz m.w) (b := b) (q := q) (n := n) (cap := cap) g0 (by omega)
          simp only [execOp, ho, h1, hk, Sem.run_bind, this, Result.andThen_ok, Sem.run_pure]
        · simp only [VR]
          exact ⟨b, q + iv.toNat * csz e, ecs, e1, hb, e2, by rw [hc]; simp⟩
      · rename_i n hx
        have row : ∀ {sz : Nat} {B : Blk} {len : Nat}, O[n]? = some B → B ≠ .dead → (∀ m h, BR m B h → ∃ e vs, OwnSl m.w e sz h len vs) → sz = C.P.cellsOf et → 0 ≤ iv → iv < len → K (.ep n sz iv 0) [] = some r → Done C o env O nx W K r := by
          intro sz B len hn hB hbr hsz' g0 g1 h
          subst hsz'
          refine Done.pure h fun base w0 N0 m O' a hm ha hO => ?_
          have hv := ha x (by simp [ho, Op.operands])
          rw [hx] at hv
          obtain ⟨k, hk⟩ := hiv ha
          simp only [VR] at hv
          rcases hv with hv | ⟨hv, _⟩
          · exact (notdead hm hO hn hB hv.1).elim
          obtain ⟨e, vs, aa, cap, h1, h2, h3⟩ := hbr m _ (blk_of hm hO hn hv hB)
          rcases h3 with h3 | ⟨b, cur, rfl, _⟩
          · omega
          refine ⟨.pointer (some ⟨b, 0 + iv.toNat * C.P.cellsOf et, none⟩), ?_, ?_⟩
          · have := indexAt_slice (k := k) hT (hsz m.w) (b := b) (q := 0) (n := len) (cap := cap) g0 (by omega)
            simp only [execOp, ho, h1, hk, Sem.run_bind, this, Result.andThen_ok, Sem.run_pure]
          · simp only [VR]
            rw [h1] at hv
            exact .inr ⟨b, len, cap, hv, g0, by omega, by simp⟩
        split at h
        · rename_i e c xs hn
          cases hc : Nat.beq (csz c) (C.P.cellsOf et) <;> simp only [hc, cond_true, cond_false] at h
          · simp at h
          cases hin : ins xs iv <;> simp only [hin, cond_true, cond_false] at h
          · simp at h
          obtain ⟨g0, g1, g2⟩ := rd_get (z := zel c) hin
          exact row hn (by simp) (fun m h hb => ⟨e, hb.choose, hb.choose_spec.1⟩) (Nat.eq_of_beq_eq_true hc) g0 g1 h
        · rename_i e z xs hn
          cases hc : Nat.beq z (C.P.cellsOf et) <;> simp only [hc, cond_true, cond_false] at h
          · simp at h
          cases hin : ins xs iv <;> simp only [hin, cond_true, cond_false] at h
          · simp at h
          obtain ⟨g0, g1, g2⟩ := rd_get (z := ([] : List DV)) hin
          exact row hn (by simp) (fun m h hb => ⟨e, hb.choose, hb.choose_spec.1⟩) (Nat.eq_of_beq_eq_true hc) g0 g1 h
        · simp at h
      · rename_i n z p q hx
        cases hc : Nat.beq z (C.P.cellsOf et) && live O n <;> simp only [hc, cond_true, cond_false] at h
        · simp at h
        simp only [Bool.and_eq_true] at hc
        have hc1 := Nat.eq_of_beq_eq_true hc.1
        subst hc1
        cases hin : decide (0 ≤ iv) && decide (iv < q - p) <;> simp only [hin, cond_true, cond_false] at h
        · simp at h
        simp only [Bool.and_eq_true, decide_eq_true_eq] at hin
        refine Done.pure h fun base w0 N0 m O' a hm ha hO => ?_
        have hv := ha x (by simp [ho, Op.operands])
        rw [hx] at hv
        obtain ⟨k, hk⟩ := hiv ha
        simp only [VR] at hv
        rcases hv with hv | ⟨aa, len, cap, a', c', h1, h2, h3, h4, h5, h6, h7, h8, h9⟩
        · exact (live_get hc.2 hm hO hv.1).elim
        obtain ⟨b, e1, e2⟩ := h9 (by omega)
        subst e1
        subst e2
        refine ⟨.pointer (some ⟨b, p.toNat * C.P.cellsOf et + iv.toNat * C.P.cellsOf et, none⟩), ?_, ?_⟩
        · have := indexAt_slice (k := k) hT (hsz m.w) (b := b) (q := p.toNat * C.P.cellsOf et) (n := (q - p).toNat) (cap := c') hin.1 (by omega)
          simp only [execOp, ho, h2, hk, Sem.run_bind, this, Result.andThen_ok, Sem.run_pure]
        · simp only [VR]
          refine .inr ⟨b, len, cap, h1, by omega, by omega, ?_⟩
          rw [show (p + iv).toNat = p.toNat + iv.toNat by omega, Nat.add_mul]
          simp
      · simp at h
    · rename_i l et hT
      cases hz : Nat.blt 0 (C.P.cellsOf et) <;> simp only [hz, cond_true, cond_false] at h
      · simp at h
      simp only [Nat.blt_eq] at hz
      obtain ⟨ii, hii, hs⟩ := info_of_cells hz
      have hsz : ∀ w, (sizeOf et).run C.P w = .ok (C.P.cellsOf et) w := fun w => by simp [sizeOf, typeInfo, hii, hs]
      split at h
      · rename_i n off hx
        split at h
        · rename_i T' c xs hn
          cases hc : Nat.beq off 0 && Nat.beq (csz c) (C.P.cellsOf et) && Nat.beq l xs.length <;> simp only [hc, cond_true, cond_false] at h
          · simp at h
          simp only [Bool.and_eq_true] at hc
          have c1 := Nat.eq_of_beq_eq_true hc.1.1
          have c2 := Nat.eq_of_beq_eq_true hc.1.2
          have c3 := Nat.eq_of_beq_eq_true hc.2
          subst c1
          cases hin : ins xs iv <;> simp only [hin, cond_true, cond_false] at h
          · simp at h
          obtain ⟨g0, g1, g2⟩ := rd_get (z := zel c) hin
          refine Done.pure h fun base w0 N0 m O' a hm ha hO => ?_
          have hv := ha x (by simp [ho, Op.operands])
          rw [hx] at hv
          obtain ⟨k, hk⟩ := hiv ha
          simp only [VR] at hv
          rcases hv with hv | ⟨b, hr, hv⟩
          · exact (notdead hm hO hn (by simp) hv.1).elim
          have hb : m.ρ n = some (.slice (some ⟨b, 0, none⟩) xs.length xs.length) := by
            rcases hr with hr | ⟨k', _, hr⟩
            · obtain ⟨b', vs, e, _⟩ := blk_of hm hO hn hr
              simp at e
            · obtain ⟨b', vs, e, _⟩ := blk_of hm hO hn hr
              simp at e
              obtain ⟨rfl, rfl, _⟩ := e
              exact hr
          refine ⟨.pointer (some ⟨b, 0 + iv.toNat * C.P.cellsOf et, none⟩), ?_, ?_⟩
          · have := indexAt_array (k := k) hT (hsz m.w) (b := b) (q := 0) g0 (by omega)
            simp only [execOp, ho, hv, hk, Sem.run_bind, this, Result.andThen_ok, Sem.run_pure]
          · simp only [VR]
            exact .inr ⟨b, _, _, hb, g0, by omega, by rw [c2]; simp⟩
        · rename_i T' cs hn
          cases hin : decide (0 ≤ iv) && decide (iv < (l : Int)) <;> simp only [hin, cond_true, cond_false] at h
          · simp at h
          simp only [Bool.and_eq_true, decide_eq_true_eq] at hin
          refine Done.pure h fun base w0 N0 m O' a hm ha hO => ?_
          have hv := ha x (by simp [ho, Op.operands])
          rw [hx] at hv
          obtain ⟨k, hk⟩ := hiv ha
          simp only [VR] at hv
          rcases hv with hv | ⟨b, hr, hv⟩
          · exact (notdead hm hO hn (by simp) hv.1).elim
          refine ⟨.pointer (some ⟨b, off + iv.toNat * C.P.cellsOf et, none⟩), ?_, ?_⟩
          · have := indexAt_array (k := k) hT (hsz m.w) (b := b) (q := off) hin.1 (by omega)
            simp only [execOp, ho, hv, hk, Sem.run_bind, this, Result.andThen_ok, Sem.run_pure]
          · simp only [VR]
            exact .inr ⟨b, hr, rfl⟩
        · simp at h
      · rename_i c y off hx
        cases hin : decide (0 ≤ iv) && decide (iv < (l : Int)) <;> simp only [hin, cond_true, cond_false] at h
        · simp at h
        simp only [Bool.and_eq_true, decide_eq_true_eq] at hin
        refine Done.pure h fun base w0 N0 m O' a hm ha hO => ?_
        have hv := ha x (by simp [ho, Op.operands])
        rw [hx] at hv
        obtain ⟨k, hk⟩ := hiv ha
        simp only [VR] at hv
        obtain ⟨b, q, cs, e1, e2, e3, hv⟩ := hv
        refine ⟨.pointer (some ⟨b, q + off + iv.toNat * C.P.cellsOf et, none⟩), ?_, ?_⟩
        · have := indexAt_array (k := k) hT (hsz m.w) (b := b) (q := q + off) hin.1 (by omega)
          simp only [execOp, ho, hv, hk, Sem.run_bind, this, Result.andThen_ok, Sem.run_pure]
        · simp only [VR]
          exact ⟨b, q, cs, e1, e2, e3, by simp [Nat.add_assoc]⟩
      · rename_i n z j off hx
        cases hin : live O n && decide (0 ≤ iv) && decide (iv < (l : Int)) <;> simp only [hin, cond_true, cond_false] at h
        · simp at h
        simp only [Bool.and_eq_true, decide_eq_true_eq] at hin
        refine Done.pure h fun base w0 N0 m O' a hm ha hO => ?_
        have hv := ha x (by simp [ho, Op.operands])
        rw [hx] at hv
        obtain ⟨k, hk⟩ := hiv ha
        simp only [VR] at hv
        rcases hv with hv | ⟨b, len, cap, h1, h2, h3, hv⟩
        · exact (live_get hin.1.1 hm hO hv.1).elim
        refine ⟨.pointer (some ⟨b, j.toNat * z + off + iv.toNat * C.P.cellsOf et, none⟩), ?_, ?_⟩
        · have := indexAt_array (k := k) hT (hsz m.w) (b := b) (q := j.toNat * z + off) hin.1.2 (by omega)
          simp only [execOp, ho, hv, hk, Sem.run_bind, this, Result.andThen_ok, Sem.run_pure]
        · simp only [VR]
          exact .inr ⟨b, len, cap, h1, h2, h3, by simp [Nat.add_assoc]⟩
      · simp at h
    · simp at h

theorem done_spec (hC : C.OK) {c : Call} {f : Operand} (ho : o.op = .call c) (hc : c.callee = .value f) (h : evR C o env O nx W K = some r) : Done C o env O nx W K r := by
  simp only [evR, ho, hc] at h
  split at h
  · rename_i g hg
    split at h
    · rename_i sp hsp
      cases hn : namelessL (c.args.toList.map (opd env)) <;> simp only [hn, cond_true, cond_false] at h
      · exact .inl h
      obtain ⟨d, news, h1, h2⟩ := sp.ok _ _ _ _ h
      refine .inr ⟨d, news, sp.nd _ _ _ _ h1, ?_, h2⟩
      intro base w0 N0 m O' a hm ha hO hnews hfree X hX
      have hf := ha f (by simp [ho, Op.operands, Call.operands, hc])
      obtain ⟨fs, cs, e1, e2, e3⟩ := fnOf_rel hg hf
      simp only [VRL] at e2 e3
      have e2 : fs = #[] := by simpa using e2
      have e3 : cs = #[] := by simpa using e3
      subst e2
      subst e3
      have hargs : VRL m (c.args.toList.map (opd env)) (c.args.map a.eval).toList := by
        have := VRL.map (m := m) (opd env) a.eval c.args.toList (fun z hz => ha z (by simp [ho, Op.operands, Call.operands, hc]; exact .inr (by simpa using hz)))
        simpa using this
      have hcall := hC.spec g sp hsp _ _ _ _ h1 hn base w0 N0 m O' (c.args.map a.eval) hm hargs hnews hfree
      obtain ⟨fn, hfn, hbody⟩ := hC.body g sp hsp
      have hrun : (execOp a.eval o).run C.P m.w = .ok (.enter g (c.args.map a.eval)) m.w := by
        have h1 : ¬ fn.name = "runtime.NumGoroutine" := by simpa using hC.name g fn hfn
        have h2 : ¬ fn.body = none := by cases hx : fn.body <;> simp_all
        unfold execOp
        simp [ho, hc, resolve, Deferred.ofValue, invoke, callFunc, hfn, h1, h2, e1]
      unfold Oper.wp
      rw [hrun]
      simp only [Oper.upon]
      refine hcall.mono ?_
      rintro e w' ⟨v, m', rfl, rfl, h3, h4, h5, h6, h7⟩
      exact hX v m' h3 h4 h5 h6 h7
    · split at h
      · rename_i xf hxf
        split at h
        · rename_i d hd
          refine Done.pure h fun base w0 N0 m O' a hm ha hO => ?_
          have hf := ha f (by simp [ho, Op.operands, Call.operands, hc])
          obtain ⟨fs, cs, e1, e2, e3⟩ := fnOf_rel hg hf
          simp only [VRL] at e2 e3
          have e2 : fs = #[] := by simpa using e2
          have e3 : cs = #[] := by simpa using e3
          subst e2
          subst e3
          have hargs : VRL m (c.args.toList.map (opd env)) (c.args.map a.eval).toList := by
            have := VRL.map (m := m) (opd env) a.eval c.args.toList (fun z hz => ha z (by simp [ho, Op.operands, Call.operands, hc]; exact .inr (by simpa using hz)))
            simpa using this
          obtain ⟨v, h1, h2⟩ := hC.ext g xf hxf _ _ hd m _ hargs
          refine ⟨v, ?_, h2⟩
          unfold execOp
          simp [ho, hc, resolve, Deferred.ofValue, invoke, e1, h1]
        · simp at h
      · exact .inl h
  · exact .inl h

def _root_.Go.TypeDesc.isPtr : TypeDesc → Bool
  | .pointer _ => true
  | _ => false

theorem methodT_rel {P : Program} {m : Mem} {recv d : DV} {name : String} {g : Nat} {v : Value} (h : methodT P recv name = some (g, d)) (hv : VR m recv v) :
    ∃ t u, v = .iface t u ∧ VR m d u ∧ ∀ n w, (method (n + 1) t u name).run P w = .ok (g, u) w := by
  unfold methodT at h
  split at h
  · rename_i t d0
    split at h
    · rename_i i u hi hu
      split at h
      · rename_i ms hms
        split at h
        · rename_i f p hp hf
          simp only [VR] at hv
          obtain ⟨z, rfl, hz⟩ := hv
          have hd : g = f ∧ d = d0 ∧ (u.isPtr = p) := by
            cases u <;> cases p <;> simp_all [TypeDesc.isPtr]
          obtain ⟨rfl, rfl, hup⟩ := hd
          refine ⟨t, z, rfl, hz, fun n w => ?_⟩
          have hrec : ∀ q, (receiverAt t (.val z) p q).run P w = .ok z w := by
            intro q
            unfold receiverAt
            cases u <;> cases p <;> simp_all [TypeDesc.isPtr, run_underlying hu, Place.get]
          simp only [method]
          simp [typeInfo, hi, hms, hp, follow, hf, hrec]
        · simp at h
      · simp at h
    · simp at h
  · simp at h

theorem callMethod_run {P : Program} {t : TypeId} {u : Value} {name : String} {g : Nat} (h : ∀ n w, (method (n + 1) t u name).run P w = .ok (g, u) w) (args : Array Value) (w : World) :
    (callMethod (.iface t u) name args).run P w = (callFunc g (#[u] ++ args)).run P w := by
  have : ∃ q, P.types.size + Made.depth = q + 1 := ⟨P.types.size + (Made.depth - 1), by simp [Made.depth]⟩
  obtain ⟨q, hq⟩ := this
  simp only [callMethod, Sem.run_bind, run_program, Result.andThen_ok, hq, h]

theorem invoke_method (name : String) (caps : Array Value) (recv : Value) (args : Array Value) : invoke (.fn (.method name) caps) (#[recv] ++ args) = callMethod recv name args := by
  have h0 : (#[recv] ++ args)[0]? = some recv := by simp [Array.getElem?_append]
  have h1 : (#[recv] ++ args).extract 1 (#[recv] ++ args).size = args := by
    apply Array.ext'
    simp
  simp only [invoke, h0, h1]

theorem done_invoke (hC : C.OK) {c : Call} {f : Operand} {n : String} (ho : o.op = .call c) (hc : c.callee = .invoke f n) (h : evR C o env O nx W K = some r) : Done C o env O nx W K r := by
  simp only [evR, ho, hc] at h
  split at h
  · rename_i g d hg
    split at h
    · rename_i xf hxf
      split at h
      · rename_i d' hd
        refine Done.pure h fun base w0 N0 m O' a hm ha hO => ?_
        obtain ⟨t, u, e1, e2, e3⟩ := methodT_rel hg (ha f (by simp [ho, Op.operands, Call.operands, hc]))
        have hargs : VRL m (c.args.toList.map (opd env)) (c.args.map a.eval).toList := by
          have := VRL.map (m := m) (opd env) a.eval c.args.toList (fun z hz => ha z (by simp [ho, Op.operands, Call.operands, hc]; exact .inr (by simpa using hz)))
          simpa using this
        have hall : VRL m (d :: c.args.toList.map (opd env)) (#[u] ++ c.args.map a.eval).toList := by
          simp only [VRL]
          exact ⟨u, (c.args.map a.eval).toList, by simp, e2, hargs⟩
        obtain ⟨v, h1, h2⟩ := hC.ext g xf hxf _ _ hd m _ hall
        refine ⟨v, ?_, h2⟩
        unfold execOp
        simp only [ho, hc, resolve, Sem.run_bind, Sem.run_pure, Result.andThen_ok, invoke_method, e1, callMethod_run e3, h1]
      · simp at h
    · exact .inl h
  · simp at h

theorem done_typeAssert {x : Operand} {xT T : TypeId} {ok : Bool} (ho : o.op = .typeAssert x xT T ok) (h : evR C o env O nx W K = some r) : Done C o env O nx W K r := by
  simp only [evR, ho] at h
  cases ok <;> simp only [cond_true, cond_false] at h
  · simp at h
  have zero : ∀ {z : Value} (w : World), (C.P.info? T).bind (·.zero) = some z → (zeroValue T).run C.P w = .ok z w := by
    intro z w hz
    obtain ⟨i, hi, hz⟩ := Option.bind_eq_some_iff.1 hz
    simp [zeroValue, typeInfo, hi, hz]
  have two : ∀ {m : Mem} {d : DV} {v : Value} {b : Bool}, VR m d v → VR m (.tup [d, .dat .bool b]) (.tuple #[v, .bool b]) := by
    intro m d v b hd
    simp only [VR]
    refine ⟨_, rfl, ?_⟩
    simp only [VRL]
    exact ⟨_, _, rfl, hd, _, _, rfl, dat_bool b, rfl⟩
  split at h
  · rename_i t d want hx hT
    split at h
    · rename_i hl
      refine Done.pure h fun base w0 N0 m O' a hm ha hO => ?_
      have hv := ha x (by simp [ho, Op.operands])
      rw [hx] at hv
      have hv' := hv
      simp only [VR] at hv'
      obtain ⟨u, e1, e2⟩ := hv'
      refine ⟨_, ?_, two hv⟩
      have := run_typeAssert_hasB (P := C.P) hT hl u xT m.w
      simp [execOp, ho, e1, this]
    · rename_i hl
      split at h
      · rename_i z hz
        refine Done.pure h fun base w0 N0 m O' a hm ha hO => ?_
        have hv := ha x (by simp [ho, Op.operands])
        rw [hx] at hv
        simp only [VR] at hv
        obtain ⟨u, e1, e2⟩ := hv
        refine ⟨_, ?_, two (ofConst_rel m z)⟩
        obtain ⟨i, hi, hiz⟩ := Option.bind_eq_some_iff.1 hz
        have := run_typeAssert_lacksB (P := C.P) (z := z) hT hl (by simp [hi, hiz]) u xT m.w
        simp [execOp, ho, e1, this]
      · simp at h
    · simp at h
  · rename_i t d u0 hni hx hT
    cases ht : Nat.beq t T <;> simp only [ht, cond_true, cond_false] at h
    · have hne : t ≠ T := by rintro rfl; rw [Nat.beq_refl] at ht; simp at ht
      split at h
      · rename_i z hz
        refine Done.pure h fun base w0 N0 m O' a hm ha hO => ?_
        have hv := ha x (by simp [ho, Op.operands])
        rw [hx] at hv
        simp only [VR] at hv
        obtain ⟨u, e1, e2⟩ := hv
        refine ⟨_, ?_, two (ofConst_rel m z)⟩
        have hz' := zero m.w hz
        cases u0 <;> first | exact (hni _ rfl).elim | simp [execOp, ho, e1, Instr.typeAssert, run_underlying hT, hne, hz']
      · simp at h
    · have := Nat.eq_of_beq_eq_true ht
      subst this
      refine Done.pure h fun base w0 N0 m O' a hm ha hO => ?_
      have hv := ha x (by simp [ho, Op.operands])
      rw [hx] at hv
      simp only [VR] at hv
      obtain ⟨u, e1, e2⟩ := hv
      refine ⟨_, ?_, two e2⟩
      cases u0 <;> first | exact (hni _ rfl).elim | simp [execOp, ho, e1, Instr.typeAssert, run_underlying hT]
  · rename_i u0 hx hT
    split at h
    · rename_i z hz
      refine Done.pure h fun base w0 N0 m O' a hm ha hO => ?_
      have hv := ha x (by simp [ho, Op.operands])
      rw [hx] at hv
      simp only [VR] at hv
      refine ⟨_, ?_, two (ofConst_rel m z)⟩
      have hz' := zero m.w hz
      cases u0 <;> simp [execOp, ho, hv, Instr.typeAssert, run_underlying hT, hz']
    · simp at h
  · simp at h

theorem zeros_row {N : Nat → Prop} {w : World} {t : Ty} {x : El t} {z : Array Value} (h : RepC N w t x z.toList) (h0 : 0 < z.size) : ∀ n, RowRep N w t (List.replicate n x) ((List.range (n * z.size)).map (fun i => z[i % z.size]!))
  | 0 => by simp [RowRep]
  | n + 1 => by
    refine ⟨z.toList, _, ?_, h, zeros_row h h0 n⟩
    apply List.ext_getElem?
    intro i
    have e : (n + 1) * z.size = z.size + n * z.size := by rw [Nat.add_mul]; omega
    by_cases hi : i < z.size
    · rw [List.getElem?_append_left (by simpa using hi)]
      simp [e, show i < z.size + n * z.size by omega, Nat.mod_eq_of_lt hi, hi]
    · rw [List.getElem?_append_right (by simp; omega)]
      simp only [List.getElem?_map, e, Array.length_toList]
      by_cases hj : i < z.size + n * z.size
      · rw [List.getElem?_range hj, List.getElem?_range (by omega)]
        simp only [Option.map_some]
        congr 2
        rw [show i = (i - z.size) + z.size by omega, Nat.add_mod_right]
        simp
      · rw [List.getElem?_eq_none (by simp; omega), List.getElem?_eq_none (by simp; omega)]

theorem done_makeSlice {T : TypeId} {l c : Operand} (ho : o.op = .makeSlice T l c) (h : evR C o env O nx W K = some r) : Done C o env O nx W K r := by
  simp only [evR, ho] at h
  split at h
  · rename_i e lv cv hT hl hc
    split at h
    · rename_i t hcode
      split at h
      · rename_i x hx
        cases hb : decide ((lv : Int) = cv) && decide ((0 : Int) ≤ lv) && limit (C.P.bytesOf e) lv && Nat.beq (csz t) (C.P.cellsOf e) && Nat.blt 0 (csz t) && zeroOk C.P e <;> simp only [hb, cond_true, cond_false] at h
        · simp at h
        simp only [Bool.and_eq_true, Nat.blt_eq, decide_eq_true_eq] at hb
        obtain ⟨⟨⟨⟨⟨b1, b2⟩, b3⟩, b4⟩, b5⟩, b6⟩ := hb
        have b4 := Nat.eq_of_beq_eq_true b4
        subst b1
        obtain ⟨i, z, hi, hz, hs, hzs, hby, hb0⟩ := zeroOk_get b6
        obtain ⟨n, hn⟩ := Int.eq_ofNat_of_zero_le b2
        have hn' : lv = (n : Int) := hn
        rw [hn'] at b3 h
        have hle := limit_le b3
        rw [← hby] at hle
        have hns : n ≤ 140737488355328 := Nat.le_trans (Nat.le_mul_of_pos_right _ hb0) hle
        simp only [Int.toNat_natCast] at h
        refine .inr ⟨_, _, by simp, ?_, h⟩
        refine OpOK.one fun base w0 N0 m O' a hm ha hO hfree => ?_
        have hvl := ha l (by simp [ho, Op.operands])
        have hvc := ha c (by simp [ho, Op.operands])
        rw [hl] at hvl
        rw [hc] at hvc
        have e1 := of_int hvl
        have e2 := of_int hvc
        have hz' : (C.P.info? e).bind (·.zero) = some z := by simp [hi, hz]
        have hrep := pack_rel (zeroCells_rel m hz') hx
        have hsz : z.cells.size = csz t := by rw [hzs, b4]
        have hrow := zeros_row hrep (by omega) n
        have hrun : (Instr.makeSlice T (.int .i64 (n : Int)) (.int .i64 (n : Int))).run C.P m.w =
            .ok (.slice (some ⟨m.w.heap.size, 0, none⟩) n n) (m.w.alloc (.cells (madeCells z.cells (n * i.size)) e)) := by
          have hb' : (i.bytes : Int) * (n : Int) ≤ 281474976710656 := by
            have h : ((i.bytes * n : Nat) : Int) ≤ 281474976710656 := by rw [Nat.mul_comm]; omega
            rwa [Int.natCast_mul] at h
          have hr := run_make (P := C.P) m.w T e i z hT hi hz .i64 .i64 n n (by omega) (Int.le_refl _) hb' (by omega)
          simpa only [Int.toNat_natCast] using hr
        have hrow' : RowRep m.N m.w t (List.replicate n x) (madeCells z.cells (n * i.size)).toList := by
          rw [hs, ← hzs]
          simpa [madeCells] using hrow
        rcases Nat.eq_zero_or_pos n with h0 | h0
        · subst h0
          refine ⟨.slice (some ⟨m.w.heap.size, 0, none⟩) 0 0, .slice (some ⟨m.w.heap.size, 0, none⟩) 0 0, m.w.alloc (.cells (madeCells z.cells (0 * i.size)) e), ?_, alloc_grown _ _, ?_, fun he => ?_, ?_⟩
          · simp only [execOp, ho, e1, e2, hn', Sem.run_bind, hrun, Result.andThen_ok, Sem.run_pure]
          · intro b hb; simp [hblk] at hb
          · exact ⟨[], ⟨_, 0, rfl, by simp, .inl ⟨rfl, rfl⟩⟩, by simp [RowRep]⟩
          · simp only [VR]
            exact .inr ⟨by simp [Mem.add], rfl⟩
        · obtain ⟨g1, g2, g3⟩ := own_lit (e := e) h0 (by unfold maxLen; omega) (by simp) hrow' nx hfree
          refine ⟨_, _, _, ?_, alloc_grown _ _, g1, g2, g3⟩
          simp only [execOp, ho, e1, e2, hn', Sem.run_bind, hrun, Result.andThen_ok, Sem.run_pure]
      · simp at h
    · simp at h
  · simp at h

theorem done_all (hC : C.OK) (h : evR C o env O nx W K = some r) : Done C o env O nx W K r := by
  cases ho : o.op with
  | move x => exact done_move ho h
  | assign x => exact done_assign ho h
  | pick c a b => exact done_pick ho h
  | alloc T => exact done_alloc ho h
  | box T x => exact done_box ho h
  | build T p => exact done_build ho h
  | buildSlice T n p => exact done_buildSlice ho h
  | load T x => exact done_load ho h
  | nilCheck x => exact done_nilCheck ho h
  | binOp op T x y yT => exact done_binOp hC ho h
  | unOp op T x => exact done_unOp ho h
  | convert s d x => exact done_convert ho h
  | makeInterface T x => exact done_makeInterface ho h
  | makeFunc f a b => exact done_makeFunc ho h
  | makeSlice T l c => exact done_makeSlice ho h
  | slice T x lo hi mx => exact done_slice ho h
  | fieldAddr T x f => exact done_fieldAddr ho h
  | field T x f => exact done_field ho h
  | indexAddr T x i => exact done_indexAddr ho h
  | index T x i => exact done_index ho h
  | extract x i => exact done_extract ho h
  | typeAssert x xT T ok => exact done_typeAssert ho h
  | call c =>
    cases hc : c.callee with
    | value f => exact done_spec hC ho hc h
    | invoke f n => exact done_invoke hC ho hc h
    | builtin b =>
      cases b
      case len => exact done_len ho hc h
      case append => exact done_append ho hc h
      case max => exact done_minmax ho (.inl hc) h
      case min => exact done_minmax ho (.inr hc) h
      all_goals exact .inl (by simpa only [evR, ho, hc] using h)
  | _ => exact .inl (by simpa only [evR, ho] using h)
end
end Go.AM
