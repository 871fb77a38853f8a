/- DERIVED. NO CLAIM IN IT. The plain machine's runs are the model's: the steps. -/
import Derived.Test.YtigfnidgpmfneaaAmSim4
set_option linter.unusedVariables false
set_option linter.unusedSimpArgs false
namespace Go.AM
open Go.RowKit
section
variable {R : Type} {C : Ctx} {L : Fr → List Fr → Heap → Option R} {fin : DV → Heap → Option R}

theorem ret_good {n : Nat} (ih : ∀ fr st O r, run C L fin n fr st O = some r → Good C fin fr st O r) {fr : Fr} {st : List Fr} {O : Heap} {r : R} (h : retRun C L fin n fr st O = some r)
    {base : Nat} {w0 : World} {N0 : Nat → Prop} {m : Mem} {b : Frame} {a : Act} {todo : List Item} {cs bot : List Frame} (hm : MR base w0 N0 m O) (hf : FRel m fr b a) (hs : StRel m st cs) :
    ∃ d O' m' v frE, fin d O' = some r ∧ Steps C.P (lone { b.at a todo with mode := .returning } (cs ++ bot) m.w) (lone frE bot m'.w) ∧ some frE.fn = (fr.fn :: st.map (·.fn)).getLast? ∧ frE.leaving C.P m'.w (.returned v) ∧ MR base w0 N0 m' O' ∧ VR m' d v := by
  unfold retRun at h
  split at h
  · rename_i fn hfn
    cases hok : resOk C.P fr.env O fn.results.toList <;> simp only [hok, cond_true, cond_false] at h
    · simp at h
    obtain ⟨v, hv, hvr⟩ := results_rel hm hf.er fn hok
    have hleave : ({ b.at a todo with mode := .returning } : Frame).leaving C.P m.w (.returned v) :=
      ⟨rfl, hf.defers, hf.kind, fn, by simp only [Frame.at]; rw [hf.fn]; exact hfn, hv⟩
    split at h
    · simp only [StRel] at hs
      subst hs
      exact ⟨_, O, m, v, _, h, .refl _ _, by simp [Frame.at, hf.fn], hleave, hm, hvr⟩
    · rename_i c st'
      obtain ⟨fc, cs', rfl, hc, hs'⟩ := hs
      obtain ⟨reg, i, draw, k, bc, ac, rest, k', o, h1, h2, h3, rfl, h5, h6, h7⟩ := hc
      rw [h1] at h
      simp only at h
      have hst := step_leave_returned (c := bc.at ac (.inRegion reg (i :: rest) :: k')) (cs := cs' ++ bot) hleave
      rw [Frame.finish_at] at hst
      have hg := ih _ _ _ _ h base w0 N0 m bc (ac.put ((reg[i]?).bind (·.dst)) v) (.inRegion reg rest :: k') cs' bot hm
        ⟨h5.fn, h5.kind, by rw [put_defers']; exact h5.defers, by rw [put_size]; exact h5.nt, h5.er.put (nt := c.nt) (by simpa [h2] using h3) h5.nt hvr⟩ (.ops h6 h7) hs'
      obtain ⟨d, O'', m'', v', frE, e1, e2, e3, e4, e5, e6⟩ := hg
      exact ⟨d, O'', m'', v', frE, e1, .head hst e2, by rw [e3]; simp [List.getLast?_cons_cons], e4, e5, e6⟩
  · simp at h

/-- The next operation is next in the model too. -/
theorem reg_next {reg : Array Oper} {i : Nat} {draw : Bool} {rest : List Nat} (h : RegRel reg i draw rest) (hi : i < reg.size) (hp : draw = false ∨ pinned reg i = true) : ∃ rest', rest = i :: rest' ∧ RegRel reg (i + 1) draw rest' := by
  cases draw with
  | false =>
    simp only [RegRel] at h
    subst h
    obtain ⟨q, hq⟩ : ∃ q, reg.size - i = q + 1 := ⟨reg.size - i - 1, by omega⟩
    refine ⟨List.range' (i + 1) q, by rw [hq, List.range'_succ], ?_⟩
    simp only [RegRel]
    rw [show reg.size - (i + 1) = q by omega]
  | true =>
    have hp := hp.resolve_left (by simp)
    obtain ⟨h1, h2⟩ := h
    have hcl : Closed reg (fun s => s < i) := fun j o e ho hj he hb => by
      have := regOk_back h1 j o e ho he hb
      show e.on < i
      have hj : j < i := hj
      omega
    match rest, h2 with
    | [], h2 => exact absurd (h2 i hi) (by omega)
    | j :: r, ⟨g1, g2, g3, g4⟩ =>
      have : j = i := by
        by_cases q : j = i
        · exact q
        · have hlt : i < j := by
            have : ¬ j < i := g2
            omega
          have := ahead_next hcl (by omega) g3 (pinned_hi hp hlt g1)
          have : i < i := this
          omega
      subst this
      refine ⟨r, rfl, h1, Ord.congr (fun s => ?_) g4⟩
      show s < j ∨ s = j ↔ s < j + 1
      omega

theorem reg_end {reg : Array Oper} {i : Nat} {draw : Bool} {rest : List Nat} (h : RegRel reg i draw rest) (hi : reg.size ≤ i) : rest = [] := by
  cases draw with
  | false =>
    simp only [RegRel] at h
    subst h
    rw [show reg.size - i = 0 by omega]
    rfl
  | true =>
    obtain ⟨h1, h2⟩ := h
    match rest, h2 with
    | [], _ => rfl
    | j :: r, ⟨g1, g2, g3, g4⟩ =>
      have : ¬ j < i := g2
      omega

theorem FRel.put {m m' : Mem} {fr : Fr} {b : Frame} {a : Act} (h : FRel m fr b a) (he : Ext m m') {dst : Option Nat} (hd : dstOk dst fr.nt = true) {d : DV} {v : Value} (hv : VR m' d v) {env : Env} (hs : Same env fr.env) {todo : List It} :
    FRel m' { fr with env := putD dst d env, todo := todo } b (a.put dst v) :=
  ⟨h.fn, h.kind, by rw [put_defers']; exact h.defers, by rw [put_size]; exact h.nt, ((h.er.same hs.symm).keep he).put hd h.nt hv⟩

theorem sim (hC : C.OK) (hL : ∀ fr st O r, L fr st O = some r → Good C fin fr st O r) : ∀ (n : Nat) (fr : Fr) (st : List Fr) (O : Heap) (r : R), run C L fin n fr st O = some r → Good C fin fr st O r := by
  intro n
  induction n using Nat.strongRecOn with
  | _ n ih =>
  intro fr st O r h
  cases n with
  | zero => simp [run] at h
  | succ n =>
  have ihn := ih n (by omega)
  cases htodo : fr.todo with
  | nil =>
    have hr : retRun C L fin n fr st O = some r := by rw [run] at h; simp only [htodo] at h; exact h
    intro base w0 N0 m b a k' cs bot hm hf ht hs
    rw [htodo] at ht
    cases ht
    obtain ⟨d, O', m', v, frE, e1, e2, e3⟩ := ret_good ihn hr (todo := []) (bot := bot) hm hf hs
    exact ⟨d, O', m', v, frE, e1, .head step_end e2, e3⟩
  | cons it k =>
  cases it with
  | code c =>
    cases c with
    | skip =>
      have hr : run C L fin n { fr with todo := k } st O = some r := by rw [run] at h; simpa only [htodo] using h
      exact Good.todo (ihn _ _ _ _ hr) fun b a k' cs m hf ht => by
        rw [htodo] at ht
        cases ht with
        | code _ hk => exact ⟨_, .one step_skip, hk⟩
    | label l =>
      have hr : run C L fin n { fr with todo := k } st O = some r := by rw [run] at h; simpa only [htodo] using h
      exact Good.todo (ihn _ _ _ _ hr) fun b a k' cs m hf ht => by
        rw [htodo] at ht
        cases ht with
        | code _ hk => exact ⟨_, .one step_label, hk⟩
    | seq x y =>
      have hr : run C L fin n { fr with todo := .code x :: .code y :: k } st O = some r := by rw [run] at h; simpa only [htodo] using h
      exact Good.todo (ihn _ _ _ _ hr) fun b a k' cs m hf ht => by
        rw [htodo] at ht
        cases ht with
        | code _ hk => exact ⟨_, .one step_seq, .code _ (.code _ hk)⟩
    | block id x =>
      have hr : run C L fin n { fr with todo := .code x :: .inBlock id :: k } st O = some r := by rw [run] at h; simpa only [htodo] using h
      exact Good.todo (ihn _ _ _ _ hr) fun b a k' cs m hf ht => by
        rw [htodo] at ht
        cases ht with
        | code _ hk => exact ⟨_, .one step_block, .code _ (.inBlock _ hk)⟩
    | loop x =>
      have hr : L { fr with todo := .code x :: .inLoop x :: k } st O = some r := by rw [run] at h; simpa only [htodo] using h
      exact Good.todo (hL _ _ _ _ hr) fun b a k' cs m hf ht => by
        rw [htodo] at ht
        cases ht with
        | code _ hk => exact ⟨_, .one step_loop, .code _ (.inLoop _ hk)⟩
    | exit id =>
      rw [run] at h
      simp only [htodo] at h
      split at h
      · rename_i q hq
        exact Good.todo (ihn _ _ _ _ h) fun b a k' cs m hf ht => by
          rw [htodo] at ht
          cases ht with
          | code _ hk =>
            obtain ⟨q', h1, h2⟩ := exit_rel hk hq
            exact ⟨q', .one (step_exit h1), h2⟩
      · simp at h
    | ret =>
      have hr : retRun C L fin n fr st O = some r := by rw [run] at h; simp only [htodo] at h; exact h
      intro base w0 N0 m b a k' cs bot hm hf ht hs
      rw [htodo] at ht
      cases ht with
      | code _ hk =>
        obtain ⟨d, O', m', v, frE, e1, e2, e3⟩ := ret_good ihn hr (bot := bot) hm hf hs
        exact ⟨d, O', m', v, frE, e1, .head step_ret e2, e3⟩
    | cond x y z =>
      rw [run] at h
      simp only [htodo] at h
      cases x with
      | tmp t =>
        simp only at h
        split at h
        · rename_i v hv
          have key : ∀ _ : Unit, run C L fin n { fr with env := (t, .dat .bool v) :: fr.env, todo := .code (if (v : Bool) = true then y else z) :: k } st O = some r → Good C fin fr st O r := by
            intro _ hr
            refine Good.of (ihn _ _ _ _ hr) rfl fun base w0 N0 m b a k' cs bot h1 h2 h3 h4 => ?_
            rw [htodo] at h3
            cases h3 with
            | code _ hk =>
              have hb := h2.er t
              rw [hv] at hb
              have hb := of_bool hb
              exact ⟨m, b, a, _, cs, .one (step_cond (t := v) hb), h1, ⟨h2.fn, h2.kind, h2.defers, h2.nt, h2.er.know hv⟩, .code _ hk, h4⟩
          cases v with
          | true => exact key () (by simpa using h)
          | false => exact key () (by simpa using h)
        · simp at h
      | const u =>
        cases u with
        | bool v =>
          simp only at h
          have key : run C L fin n { fr with todo := .code (if v = true then y else z) :: k } st O = some r → Good C fin fr st O r := by
            intro hr
            exact Good.todo (ihn _ _ _ _ hr) fun b a k' cs m hf ht => by
              rw [htodo] at ht
              cases ht with
              | code _ hk => exact ⟨_, .one (step_cond (t := v) rfl), .code _ hk⟩
          cases v with
          | true => exact key (by simpa using h)
          | false => exact key (by simpa using h)
        | _ => simp at h
      | global g => simp at h
      | func f => simp at h
    | scope x =>
      have hr : run C L fin n { fr with todo := .code x :: .inScope x :: k } st O = some r := by rw [run] at h; simpa only [htodo] using h
      exact Good.todo (ihn _ _ _ _ hr) fun b a k' cs m hf ht => by
        rw [htodo] at ht
        cases ht with
        | code _ hk => exact ⟨_, .one (step_lone_go (by simp [stepG, stepG.exec, Frame.at])), .code _ (.inScope _ hk)⟩
    | region id ops draw =>
      rw [run] at h
      simp only [htodo] at h
      cases draw with
      | false =>
        have hr : run C L fin n { fr with todo := .ops ops 0 false :: k } st O = some r := by simpa using h
        exact Good.todo (ihn _ _ _ _ hr) fun b a k' cs m hf ht => by
          rw [htodo] at ht
          cases ht with
          | code _ hk => exact ⟨_, .one step_region, .ops (by simp [RegRel, List.range_eq_range']) hk⟩
      | true =>
        cases hok : regOk ops with
        | false => simp [hok] at h
        | true =>
          have hr : run C L fin n { fr with todo := .ops ops 0 true :: k } st O = some r := by simpa [hok] using h
          refine Good.of (ihn _ _ _ _ hr) rfl fun base w0 N0 m b a k' cs bot h1 h2 h3 h4 => ?_
          rw [htodo] at h3
          cases h3 with
          | code _ hk =>
            have hst := step_region_draw (P := C.P) (b := b) (a := a) (k := by assumption) (cs := cs ++ bot) (w := m.w) (ops := ops) (id := id)
            have hg : m.w.grownBy { m.w with drawn := m.w.drawn + 1 } none := ⟨rfl, rfl, rfl, Nat.le_refl _, fun _ _ _ => rfl⟩
            have hex : Ext m { m with w := { m.w with drawn := m.w.drawn + 1 } } := ⟨fun _ _ h => .inl h, fun _ h => h, fun _ h => h, fun _ _ => rfl⟩
            refine ⟨{ m with w := { m.w with drawn := m.w.drawn + 1 } }, b, a, _, cs, .one hst, ?_, ⟨h2.fn, h2.kind, h2.defers, h2.nt, h2.er.keep hex⟩, .ops ⟨hok, ?_⟩ hk, h4.keep hex⟩
            · refine ⟨h1.below.grown hg h1.bsz (by simp), h1.bsz, h1.lt, h1.nBase, h1.nN, h1.inj, fun q v hq => ?_, h1.dead⟩
              obtain ⟨B, e1, e2⟩ := h1.blk q v hq
              exact ⟨B, e1, BR.keep hex B v (fun _ _ => rfl) e2⟩
            · rw [hC.mixed]
              exact Ord.congr (fun s => by simp) (ord_schedule (regOk_back hok) _)
    | _ => rw [run] at h; simp [htodo] at h
  | inBlock id =>
    have hr : run C L fin n { fr with todo := k } st O = some r := by rw [run] at h; simpa only [htodo] using h
    exact Good.todo (ihn _ _ _ _ hr) fun b a k' cs m hf ht => by
      rw [htodo] at ht
      cases ht with
      | inBlock _ hk => exact ⟨_, .one step_inBlock, hk⟩
  | inScope x =>
    have hr : run C L fin n { fr with todo := k } st O = some r := by rw [run] at h; simpa only [htodo] using h
    exact Good.todo (ihn _ _ _ _ hr) fun b a k' cs m hf ht => by
      rw [htodo] at ht
      cases ht with
      | inScope _ hk => exact ⟨_, .one (step_lone_go (by simp [stepG, stepG.exec, Frame.at])), hk⟩
  | inLoop x =>
    have hr : L { fr with todo := .code x :: .inLoop x :: k } st O = some r := by rw [run] at h; simpa only [htodo] using h
    exact Good.todo (hL _ _ _ _ hr) fun b a k' cs m hf ht => by
      rw [htodo] at ht
      cases ht with
      | inLoop _ hk => exact ⟨_, .one step_inLoop, .code _ (.inLoop _ hk)⟩
  | ops reg i draw =>
    by_cases hi : reg.size ≤ i
    · have hnone : reg[i]? = none := by simpa using hi
      have hr : run C L fin n { fr with todo := k } st O = some r := by rw [run] at h; simpa only [htodo, hnone] using h
      exact Good.todo (ihn _ _ _ _ hr) fun b a k' cs m hf ht => by
        rw [htodo] at ht
        cases ht with
        | ops hreg hk =>
          have := reg_end hreg hi
          subst this
          exact ⟨_, .one step_region_end, hk⟩
    · have hi : i < reg.size := by omega
      by_cases hal : draw = false ∨ pinned reg i = true
      · have ho : reg[i]? = some reg[i] := Array.getElem?_eq_getElem hi
        generalize reg[i] = o at ho
        obtain ⟨hd, hh⟩ := run_op htodo ho h
        rcases hh with ⟨e', hsame, hw, hr⟩ | ⟨e', hsame, hw, hr⟩
        · refine Good.of (ihn _ _ _ _ hr) rfl fun base w0 N0 m b a k' cs bot h1 h2 h3 h4 => ?_
          rw [htodo] at h3
          cases h3 with
          | ops hreg hk =>
            obtain ⟨rest', rfl, hreg'⟩ := reg_next hreg hi hal
            have hwan := wanted_of hw (a := a) (m := m) (fun t _ => h2.er t)
            have hst := step_op_skip (P := C.P) (b := b) (a := a) (k := by assumption) (cs := cs ++ bot) (w := m.w) (ops := reg) (i := i) (rest := rest') (by simp [ho, hwan])
            rw [ho] at hst
            exact ⟨m, b, _, _, cs, .one hst, h1, h2.put (Ext.refl m) hd (by simp only [VR]) hsame, .ops hreg' hk, h4⟩
        · unfold exOp at hr
          rcases done_all hC hr with hr | ⟨d, news, hnd, hop, hr⟩
          · -- it writes, or calls
            have hcond : (draw && !pinned reg i) = false := by rcases hal with q | q <;> simp [q]
            unfold wOp at hr
            simp only [hcond, cond_false] at hr
            have writes : (evW C o e' O O.length fun d O' => run C L fin n { fr with env := putD o.dst d e', todo := .ops reg (i + 1) draw :: k } st O') = some r → Good C fin fr st O r := by
              intro hr
              obtain ⟨d, O', hop, hr⟩ := evW_done hr
              refine Good.of (ihn _ _ _ _ hr) rfl fun base w0 N0 m b a k' cs bot h1 h2 h3 h4 => ?_
              rw [htodo] at h3
              cases h3 with
              | ops hreg hk =>
                obtain ⟨rest', rfl, hreg'⟩ := reg_next hreg hi hal
                have hwan := wanted_of hw (a := a) (m := m) (fun t _ => h2.er t)
                have hw' := hop base w0 N0 m a h1 (fun x _ => by rw [hsame.opd]; exact opd_rel h2.er x)
                  (fun a' w' => ∃ v m', a' = a.put o.dst v ∧ m'.w = w' ∧ Ext m m' ∧ MR base w0 N0 m' O' ∧ VR m' d v) (fun v m' g1 g2 g3 => ⟨v, m', rfl, rfl, g1, g2, g3⟩)
                obtain ⟨a', w', ⟨v, m', rfl, rfl, g1, g2, g3⟩, hst⟩ := op_steps hw' ho hwan b (by assumption) (cs ++ bot) rest'
                exact ⟨m', b, _, _, cs, hst, g2, h2.put g1 hd g3 hsame, .ops hreg' hk, h4.keep g1⟩
            split at hr
            · rename_i c hop
              split at hr
              · exact writes hr
              · split at hr
                · rename_i g args htar
                  split at hr
                  · rename_i f hent
                    unfold enter at hent
                    split at hent
                    · rename_i fn hfn
                      split at hent
                      · rename_i body hbody
                        simp at hent
                        subst hent
                        have hlast : (fr.fn :: st.map (·.fn)).getLast? = (g :: ({ fr with env := e', todo := .ops reg i draw :: k } :: st).map (·.fn)).getLast? := by simp [List.getLast?_cons_cons]
                        refine Good.of (ihn _ _ _ _ hr) hlast fun base w0 N0 m b a k' cs bot h1 h2 h3 h4 => ?_
                        rw [htodo] at h3
                        cases h3 with
                        | ops hreg hk =>
                          rename_i kk
                          obtain ⟨rest', rfl, hreg'⟩ := reg_next hreg hi hal
                          have hwan := wanted_of hw (a := a) (m := m) (fun t _ => h2.er t)
                          have her := h2.er.same hsame.symm
                          have hrun : ∃ vs : Array Value, VRL m args vs.toList ∧ (execOp a.eval o).run C.P m.w = .ok (.enter g vs) m.w := by
                            have q1 : ¬ fn.name = "runtime.NumGoroutine" := by simpa using hC.name g fn hfn
                            have q2 : ¬ fn.body = none := by rw [hbody]; simp
                            have hargs : VRL m (c.args.toList.map (opd e')) (c.args.map a.eval).toList := by
                              have := VRL.map (m := m) (opd e') a.eval c.args.toList (fun z _ => opd_rel her z)
                              simpa using this
                            unfold target at htar
                            split at htar
                            · rename_i fo hcal
                              split at htar
                              · rename_i g' x y hfo
                                simp at htar
                                obtain ⟨rfl, rfl⟩ := htar
                                obtain ⟨fs, cps, e1, e2, e3⟩ := fnOf_rel hfo (opd_rel her fo)
                                refine ⟨fs ++ c.args.map a.eval ++ cps, ?_, ?_⟩
                                · have := e2.append (hargs.append e3)
                                  simpa using this
                                · unfold execOp
                                  simp [hop, hcal, resolve, Deferred.ofValue, invoke, callFunc, hfn, q1, q2, e1]
                              · simp at htar
                            · rename_i fo nm hcal
                              split at htar
                              · rename_i g' d hmt
                                simp at htar
                                obtain ⟨rfl, rfl⟩ := htar
                                obtain ⟨t, u, e1, e2, e3⟩ := methodT_rel hmt (opd_rel her fo)
                                refine ⟨#[u] ++ c.args.map a.eval, ?_, ?_⟩
                                · simp only [VRL]
                                  exact ⟨u, (c.args.map a.eval).toList, by simp, e2, hargs⟩
                                · have hcf : (callFunc g' (#[u] ++ c.args.map a.eval)).run C.P m.w = .ok (.enter g' (#[u] ++ c.args.map a.eval)) m.w := by
                                    simp [callFunc, hfn, q1, q2]
                                  unfold execOp
                                  simp only [hop, hcal, resolve, Sem.run_bind, Sem.run_pure, Result.andThen_ok, invoke_method, e1, callMethod_run e3, hcf]
                              · simp at htar
                            · simp at htar
                          obtain ⟨vs, hall, hrun⟩ := hrun
                          have hg := stepG_op (P := C.P) (b := b) (a := a) (k := kk) (cs := cs ++ bot) (w := m.w) (rest := rest') ho hwan
                          have henter : step C.P (lone (b.at a (.inRegion reg (i :: rest') :: kk)) (cs ++ bot) m.w) =
                              .next (lone (Frame.enter C.P g vs .normal) (b.at a (.inRegion reg (i :: rest') :: kk) :: (cs ++ bot)) m.w) :=
                            step_lone_go (by rw [hg]; simp [stepG.apply, hrun, Frame.at])
                          have hfe : Frame.enter C.P g vs .normal = (Frame.enter C.P g vs .normal).at ⟨vs ++ Array.replicate (fn.ntmps - vs.size) undef, []⟩ [.code body] := by
                            simp only [Frame.enter, Frame.at, hfn, Option.map_some, Option.getD_some, Option.bind_some, hbody]
                          rw [hfe] at henter
                          refine ⟨m, _, _, _, b.at a (.inRegion reg (i :: rest') :: kk) :: cs, .one henter, h1, ⟨rfl, rfl, rfl, ?_, ?_⟩, .code _ .nil, ?_⟩
                          · simp; omega
                          · simpa using argEnv_er hall _
                          · exact ⟨_, _, rfl, ⟨reg, i, draw, k, b, a, rest', kk, o, rfl, ho, hd, rfl, ⟨h2.fn, h2.kind, h2.defers, h2.nt, her⟩, hreg', hk⟩, h4⟩
                      · simp at hent
                    · simp at hent
                  · simp at hr
                · simp at hr
            · exact writes hr
          · refine Good.of (ihn _ _ _ _ hr) rfl fun base w0 N0 m b a k' cs bot h1 h2 h3 h4 => ?_
            rw [htodo] at h3
            cases h3 with
            | ops hreg hk =>
              obtain ⟨rest', rfl, hreg'⟩ := reg_next hreg hi hal
              have hwan := wanted_of hw (a := a) (m := m) (fun t _ => h2.er t)
              have hw' := hop base w0 N0 m (O ++ news) a (h1.grow news hnd) (fun x _ => by rw [hsame.opd]; exact opd_rel h2.er x)
                (fun q B hq => by rw [List.getElem?_append_left (List.getElem?_eq_some_iff.1 hq).1]; exact hq) (fun q B hq => by rw [List.getElem?_append_right (by omega)]; simpa using hq) (fun q _ => h1.free q)
                (fun a' w' => ∃ v m', a' = a.put o.dst v ∧ m'.w = w' ∧ Ext m m' ∧ MR base w0 N0 m' (O ++ news) ∧ VR m' d v) (fun v m' g1 g2 g3 _ _ => ⟨v, m', rfl, rfl, g1, g2, g3⟩)
              obtain ⟨a', w', ⟨v, m', rfl, rfl, g1, g2, g3⟩, hst⟩ := op_steps hw' ho hwan b (by assumption) (cs ++ bot) rest'
              exact ⟨m', b, _, _, cs, hst, g2, h2.put g1 hd g3 hsame, .ops hreg' hk, h4.keep g1⟩
      · have hdraw : draw = true := by
          cases draw
          · exact (hal (.inl rfl)).elim
          · rfl
        subst hdraw
        have hp : pinned reg i = false := by
          cases hq : pinned reg i
          · rfl
          · exact (hal (.inr hq)).elim
        obtain ⟨M, F, e', n', hlt, hsame, hall, hseg, hr⟩ := collect hC _ fr O i htodo h hi hp
        refine Good.of (ih n' (by omega) _ _ _ _ hr) rfl fun base w0 N0 m b a k' cs bot h1 h2 h3 h4 => ?_
        rw [htodo] at h3
        cases h3 with
        | ops hreg hk =>
          rename_i kk
          obtain ⟨hok, hord⟩ := hreg
          have hnews : ∀ t, t ≤ M → ∀ s B, (heapA O F t)[s]? = some B → O.length ≤ s → B ≠ Blk.dead := by
            intro t
            induction t with
            | zero =>
              intro _ s B hs hge
              have := (List.getElem?_eq_some_iff.1 hs).1
              simp only [heapA] at this
              omega
            | succ t iht =>
              intro ht s B hs hge
              simp only [heapA] at hs
              by_cases hlen : s < (heapA O F t).length
              · rw [List.getElem?_append_left hlen] at hs
                exact iht (by omega) s B hs hge
              · rw [List.getElem?_append_right (by omega)] at hs
                obtain ⟨_, _, _, _, hnd, _⟩ := hall t (by omega)
                exact hnd B (List.mem_of_getElem? hs)
          obtain ⟨tail, htail⟩ := heapA_pre O F (Nat.zero_le M)
          have hm : MR base w0 N0 m (heapA O F M) := by
            have ht : heapA O F M = O ++ tail := htail
            rw [ht]
            refine h1.grow tail fun B hB => ?_
            obtain ⟨s, hs⟩ := List.getElem?_of_mem hB
            exact hnews M (Nat.le_refl _) (O.length + s) B (by rw [ht, List.getElem?_append_right (by omega)]; simpa using hs) (by omega)
          have hcl : Closed reg (fun s => s < i ∨ ∃ t, t < M ∧ s = i + t ∧ (fun _ => false) t = true) := by
            intro j o e ho hj he hb
            rcases hj with hj | ⟨t, _, _, h⟩
            · have := regOk_back hok j o e ho he hb
              exact .inl (by omega)
            · simp at h
          obtain ⟨rest', a', m', s1, s2, s3, s4, s5, s6, s7⟩ := flush (C := C) hok hall hseg b kk (cs ++ bot) _ (fun _ => false) a m (Ord.congr (fun s => by simp) hord) hcl hm
            (fun x => by rw [vA_none]; exact h2.er x) (fun t ht _ q hq => by
              have : O.length ≤ (heapA O F t).length := by
                obtain ⟨tl, htl⟩ := heapA_pre O F (Nat.zero_le t)
                have : heapA O F t = O ++ tl := htl
                rw [this]; simp
              obtain ⟨z, hz⟩ : ∃ z, (heapA O F t).length + q = O.length + z := ⟨(heapA O F t).length + q - O.length, by omega⟩
              rw [hz]
              exact h1.free z) h2.nt
          exact ⟨m', b, a', _, cs, s1, s3, ⟨h2.fn, h2.kind, by rw [s7]; exact h2.defers, by rw [s6]; exact h2.nt, s5.same hsame.symm⟩, .ops ⟨hok, s2⟩ hk, h4.keep s4⟩
end
end Go.AM
