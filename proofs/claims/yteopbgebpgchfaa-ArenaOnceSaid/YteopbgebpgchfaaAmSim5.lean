/- DERIVED. NO CLAIM IN IT. The plain machine's runs are the model's: the steps. -/
import Derived.Test.YteopbgebpgchfaaAmSim4
import Derived.Test.YteopbgebpgchfaaAmFz
set_option linter.unusedVariables false
set_option linter.unusedSimpArgs false
namespace Go.AM
open Go.RowKit
section
variable {R : Type} {C : Ctx} {L : Fr → List Fr → Heap → Option R} {fin : DV → Heap → Option R}

theorem ret_good {n : Nat} (ih : ∀ fr st O r, run C L fin n fr st O = some r → Good C fin fr st O r) {fr : Fr} {st : List Fr} {O : Heap} {r : R} (h : retRun C L fin n fr st O = some r)
    {base : Nat} {w0 : World} {N0 : Nat → Prop} {m : Mem} {b : Frame} {a : Act} {todo : List Item} {cs bot : List Frame} (hm : MR base w0 N0 m O) (hf : FRel m fr b a) (hs : StRel m st cs) :
    ∃ d O' m' v frE, fin d O' = some r ∧ Steps C.P (lone { b.at a todo with mode := .returning } (cs ++ bot) m.w) (lone frE bot m'.w) ∧ some frE.fn = (fr.fn :: st.map (·.fn)).getLast? ∧ frE.leaving C.P m'.w (.returned v) ∧ MR base w0 N0 m' O' ∧ VR m' d v := by
  unfold retRun at h
  split at h
  · rename_i fn hfn
    cases hok : resOk C.P fr.env O fn.results.toList <;> simp only [hok, cond_true, cond_false] at h
    · simp at h
    obtain ⟨v, hv, hvr⟩ := results_rel hm hf.er fn hok
    have hleave : ({ b.at a todo with mode := .returning } : Frame).leaving C.P m.w (.returned v) :=
      ⟨rfl, hf.defers, hf.kind, fn, by simp only [Frame.at]; rw [hf.fn]; exact hfn, hv⟩
    split at h
    · simp only [StRel] at hs
      subst hs
      exact ⟨_, O, m, v, _, h, .refl _ _, by simp [Frame.at, hf.fn], hleave, hm, hvr⟩
    · rename_i c st'
      obtain ⟨fc, cs', rfl, hc, hs'⟩ := hs
      obtain ⟨reg, i, draw, k, bc, rac, ac, rest, k', o, h1, h2, h3, rfl, h5, h6, h7, h8⟩ := hc
      rw [h1] at h
      simp only at h
      have hst := step_leave_returned (c := bc.at rac (.inRegion reg (i :: rest) :: k')) (cs := cs' ++ bot) hleave
      rw [Frame.finish_at] at hst
      have hg := ih _ _ _ _ h base w0 N0 m bc (rac.put ((reg[i]?).bind (·.dst)) v) (ac.put ((reg[i]?).bind (·.dst)) v) (.inRegion reg rest :: k') cs' bot hm
        ⟨h5.fn, h5.kind, by rw [put_defers']; exact h5.defers, by rw [put_size]; exact h5.nt, h5.er.put (nt := c.nt) (by simpa [h2] using h3) h5.nt hvr⟩ (.ops h6 (by have := h8 v; simpa [h2] using this) h7) hs'
      obtain ⟨d, O'', m'', v', frE, e1, e2, e3, e4, e5, e6⟩ := hg
      exact ⟨d, O'', m'', v', frE, e1, .head hst e2, by rw [e3]; simp [List.getLast?_cons_cons], e4, e5, e6⟩
  · simp at h

theorem reg_end {reg : Array Oper} {i : Nat} {draw : Bool} {rest : List Nat} {ra a : Act} (h : RegRel reg i draw rest) (hv : VirtD reg i draw rest ra a) (hi : reg.size ≤ i) (b : Frame) (k : List Item) (cs : List Frame) (P : Program) (w : World) :
    Steps P (lone (b.at ra (.inRegion reg rest :: k)) cs w) (lone (b.at a (.inRegion reg [] :: k)) cs w) := by
  cases draw with
  | false =>
    simp only [RegRel] at h
    simp only [VirtD] at hv
    subst h
    subst hv
    rw [show reg.size - i = 0 by omega]
    exact .refl _ _
  | true =>
    obtain ⟨hok, hr⟩ := h
    -- all that is left are plain moves
    induction rest generalizing ra with
    | nil => rw [VirtR.same (by simp) hv]; exact .refl _ _
    | cons x r ih =>
      obtain ⟨hord, hcl, hpend⟩ := hr
      have hord0 := hord
      obtain ⟨q1, q2, q3, q4⟩ := hord
      have hfresh := Ord.fresh hord0
      have hlt : x < i := by omega
      obtain ⟨hfl, htl⟩ := hpend x (by simp) hlt
      obtain ⟨o, y, d, ho, hx, hd, hguard, hself, huniq⟩ := float_get hfl
      obtain ⟨hds, hdv⟩ := hv.2.2.1 x (by simp) hlt o d y ho hd hx
      rw [← virt_src hok hcl hpend q3 hv ho hx hd hself huniq] at hdv
      have hw : Region.wanted o (yielded reg ra.tmps) = true := by simp [Region.wanted, hguard]
      have hwp : o.wp P ra w (fun a' w' => a' = ra.put o.dst (a.tmps.getD d undef) ∧ w' = w) No := by
        unfold Oper.wp Oper.upon
        rw [fval_run hx hdv]
        exact ⟨rfl, rfl⟩
      obtain ⟨a', w', ⟨rfl, rfl⟩, hst⟩ := op_steps hwp ho hw b k cs r
      have hiff : ∀ j, ((j < i ∧ j ∉ x :: r) ∨ j = x) ↔ (j < i ∧ j ∉ r) := by
        intro j
        constructor
        · rintro (⟨g1, g2⟩ | rfl)
          · exact ⟨g1, fun hm => g2 (List.mem_cons_of_mem _ hm)⟩
          · exact ⟨hlt, hfresh⟩
        · rintro ⟨g1, g2⟩
          by_cases e : j = x
          · exact .inr e
          · exact .inl ⟨g1, by simp [e, g2]⟩
      refine hst.trans (ih ?_ ⟨Ord.congr hiff q4, fun j o' e ho' hj he hb => (hiff _).1 (hcl.add q3 j o' e ho' ((hiff j).2 hj) he hb), fun q hq hlt => hpend q (List.mem_cons_of_mem _ hq) hlt⟩)
      refine ⟨by rw [put_size]; exact hv.1, by rw [put_defers']; exact hv.2.1, fun q hq hlt' o2 d2 x2 ho2 hd2 hx2 => ?_, fun t ht => ?_⟩
      · obtain ⟨k1, k2⟩ := hv.2.2.1 q (List.mem_cons_of_mem _ hq) hlt' o2 d2 x2 ho2 hd2 hx2
        exact ⟨by rw [put_size]; exact k1, k2⟩
      · rw [Act.getD_put]
        by_cases e : d = t
        · subst e
          rw [if_pos ⟨hd, hds⟩]
        · rw [if_neg (by rw [hd]; simp [e])]
          refine hv.2.2.2 t fun q hq hlt' o2 ho2 => ?_
          rcases List.mem_cons.1 hq with rfl | hq
          · rw [ho] at ho2
            simp at ho2
            subst ho2
            rw [hd]; simp [e]
          · exact ht q hq hlt' o2 ho2

theorem FRel.put {m m' : Mem} {fr : Fr} {b : Frame} {a : Act} (h : FRel m fr b a) (he : Ext m m') {dst : Option Nat} (hd : dstOk dst fr.nt = true) {d : DV} {v : Value} (hv : VR m' d v) {env : Env} (hs : Same env fr.env) {todo : List It} :
    FRel m' { fr with env := putD dst d env, todo := todo } b (a.put dst v) :=
  ⟨h.fn, h.kind, by rw [put_defers']; exact h.defers, by rw [put_size]; exact h.nt, ((h.er.same hs.symm).keep he).put hd h.nt hv⟩

theorem sim (hC : C.OK) (hL : ∀ fr st O r, L fr st O = some r → Good C fin fr st O r) : ∀ (n : Nat) (fr : Fr) (st : List Fr) (O : Heap) (r : R), run C L fin n fr st O = some r → Good C fin fr st O r := by
  intro n
  induction n using Nat.strongRecOn with
  | _ n ih =>
  intro fr st O r h
  cases n with
  | zero => simp [run] at h
  | succ n =>
  have ihn := ih n (by omega)
  cases htodo : fr.todo with
  | nil =>
    have hr : retRun C L fin n fr st O = some r := by rw [run] at h; simp only [htodo] at h; exact h
    intro base w0 N0 m b ra a k' cs bot hm hf ht hs
    rw [htodo] at ht
    obtain ⟨rfl, rfl⟩ := ht.nil_inv
    obtain ⟨d, O', m', v, frE, e1, e2, e3⟩ := ret_good ihn hr (todo := []) (bot := bot) hm hf hs
    exact ⟨d, O', m', v, frE, e1, .head step_end e2, e3⟩
  | cons it k =>
  cases it with
  | code c =>
    cases c with
    | skip =>
      have hr : run C L fin n { fr with todo := k } st O = some r := by rw [run] at h; simpa only [htodo] using h
      exact Good.todo (ihn _ _ _ _ hr) fun b ra a k' cs m hf ht => by
        rw [htodo] at ht
        obtain ⟨rfl, _, rfl, hk⟩ := ht.code_inv
        exact ⟨_, .one step_skip, .top (hk) rfl⟩
    | label l =>
      have hr : run C L fin n { fr with todo := k } st O = some r := by rw [run] at h; simpa only [htodo] using h
      exact Good.todo (ihn _ _ _ _ hr) fun b ra a k' cs m hf ht => by
        rw [htodo] at ht
        obtain ⟨rfl, _, rfl, hk⟩ := ht.code_inv
        exact ⟨_, .one step_label, .top (hk) rfl⟩
    | seq x y =>
      have hr : run C L fin n { fr with todo := .code x :: .code y :: k } st O = some r := by rw [run] at h; simpa only [htodo] using h
      exact Good.todo (ihn _ _ _ _ hr) fun b ra a k' cs m hf ht => by
        rw [htodo] at ht
        obtain ⟨rfl, _, rfl, hk⟩ := ht.code_inv
        exact ⟨_, .one step_seq, .top (.code _ (.code _ hk)) rfl⟩
    | block id x =>
      have hr : run C L fin n { fr with todo := .code x :: .inBlock id :: k } st O = some r := by rw [run] at h; simpa only [htodo] using h
      exact Good.todo (ihn _ _ _ _ hr) fun b ra a k' cs m hf ht => by
        rw [htodo] at ht
        obtain ⟨rfl, _, rfl, hk⟩ := ht.code_inv
        exact ⟨_, .one step_block, .top (.code _ (.inBlock _ hk)) rfl⟩
    | loop x =>
      have hr : L { fr with todo := .code x :: .inLoop x :: k } st O = some r := by rw [run] at h; simpa only [htodo] using h
      exact Good.todo (hL _ _ _ _ hr) fun b ra a k' cs m hf ht => by
        rw [htodo] at ht
        obtain ⟨rfl, _, rfl, hk⟩ := ht.code_inv
        exact ⟨_, .one step_loop, .top (.code _ (.inLoop _ hk)) rfl⟩
    | exit id =>
      rw [run] at h
      simp only [htodo] at h
      split at h
      · rename_i q hq
        exact Good.todo (ihn _ _ _ _ h) fun b ra a k' cs m hf ht => by
          rw [htodo] at ht
          obtain ⟨rfl, _, rfl, hk⟩ := ht.code_inv
          obtain ⟨q', h1, h2⟩ := exit_rel hk hq
          exact ⟨q', .one (step_exit h1), .top h2 rfl⟩
      · simp at h
    | ret =>
      have hr : retRun C L fin n fr st O = some r := by rw [run] at h; simp only [htodo] at h; exact h
      intro base w0 N0 m b ra a k' cs bot hm hf ht hs
      rw [htodo] at ht
      obtain ⟨rfl, _, rfl, hk⟩ := ht.code_inv
      obtain ⟨d, O', m', v, frE, e1, e2, e3⟩ := ret_good ihn hr (bot := bot) hm hf hs
      exact ⟨d, O', m', v, frE, e1, .head step_ret e2, e3⟩
    | cond x y z =>
      rw [run] at h
      simp only [htodo] at h
      cases x with
      | tmp t =>
        simp only at h
        split at h
        · rename_i v hv
          have key : ∀ _ : Unit, run C L fin n { fr with env := (t, .dat .bool v) :: fr.env, todo := .code (if (v : Bool) = true then y else z) :: k } st O = some r → Good C fin fr st O r := by
            intro _ hr
            refine Good.of (ihn _ _ _ _ hr) rfl fun base w0 N0 m b ra a k' cs bot h1 h2 h3 h4 => ?_
            rw [htodo] at h3
            obtain ⟨rfl, _, rfl, hk⟩ := h3.code_inv
            have hb := h2.er t
            rw [hv] at hb
            have hb := of_bool hb
            exact ⟨m, b, ra, ra, _, cs, .one (step_cond (t := v) hb), h1, ⟨h2.fn, h2.kind, h2.defers, h2.nt, h2.er.know hv⟩, .top (.code _ hk) rfl, h4⟩
          cases v with
          | true => exact key () (by simpa using h)
          | false => exact key () (by simpa using h)
        · rename_i hv
          obtain ⟨q1, q2⟩ := join_some h
          have key : ∀ v : Bool, Good C fin { fr with env := (t, .dat .bool v) :: fr.env, todo := .code (if v = true then y else z) :: k } st O r := by
            intro v
            cases v with
            | true => exact ihn _ _ _ _ (by simpa using q1)
            | false => exact ihn _ _ _ _ (by simpa using q2)
          intro base w0 N0 m b ra a k' cs bot h1 h2 h3 h4
          rw [htodo] at h3
          obtain ⟨rfl, _, rfl, hk⟩ := h3.code_inv
          · have hb := h2.er t
            rw [hv] at hb
            simp only [VR] at hb
            obtain ⟨v, hb⟩ := hb
            obtain ⟨d, O'', m'', v', frE, e1, e2, e3, e4, e5, e6⟩ := key v base w0 N0 m b ra ra _ cs bot h1 ⟨h2.fn, h2.kind, h2.defers, h2.nt, h2.er.knows hb⟩ (.top (.code _ hk) rfl) h4
            exact ⟨d, O'', m'', v', frE, e1, .head (step_cond (t := v) hb) e2, e3, e4, e5, e6⟩
        · simp at h
      | const u =>
        cases u with
        | bool v =>
          simp only at h
          have key : run C L fin n { fr with todo := .code (if v = true then y else z) :: k } st O = some r → Good C fin fr st O r := by
            intro hr
            exact Good.todo (ihn _ _ _ _ hr) fun b ra a k' cs m hf ht => by
              rw [htodo] at ht
              obtain ⟨rfl, _, rfl, hk⟩ := ht.code_inv
              exact ⟨_, .one (step_cond (t := v) rfl), .top (.code _ hk) rfl⟩
          cases v with
          | true => exact key (by simpa using h)
          | false => exact key (by simpa using h)
        | _ => simp at h
      | global g => simp at h
      | func f => simp at h
    | scope x =>
      have hr : run C L fin n { fr with todo := .code x :: .inScope x :: k } st O = some r := by rw [run] at h; simpa only [htodo] using h
      exact Good.todo (ihn _ _ _ _ hr) fun b ra a k' cs m hf ht => by
        rw [htodo] at ht
        obtain ⟨rfl, _, rfl, hk⟩ := ht.code_inv
        exact ⟨_, .one (step_lone_go (by simp [stepG, stepG.exec, Frame.at])), .top (.code _ (.inScope _ hk)) rfl⟩
    | region id ops draw =>
      rw [run] at h
      simp only [htodo] at h
      cases draw with
      | false =>
        have hr : run C L fin n { fr with todo := .ops ops 0 false :: k } st O = some r := by simpa using h
        exact Good.todo (ihn _ _ _ _ hr) fun b ra a k' cs m hf ht => by
          rw [htodo] at ht
          obtain ⟨rfl, _, rfl, hk⟩ := ht.code_inv
          exact ⟨_, .one step_region, .ops (by simp [RegRel, List.range_eq_range']) rfl hk⟩
      | true =>
        cases hok : regOk ops with
        | false => simp [hok] at h
        | true =>
          have hr : run C L fin n { fr with todo := .ops ops 0 true :: k } st O = some r := by simpa [hok] using h
          refine Good.of (ihn _ _ _ _ hr) rfl fun base w0 N0 m b ra a k' cs bot h1 h2 h3 h4 => ?_
          rw [htodo] at h3
          obtain ⟨rfl, kk, rfl, hk⟩ := h3.code_inv
          have hst := step_region_draw (P := C.P) (b := b) (a := ra) (k := kk) (cs := cs ++ bot) (w := m.w) (ops := ops) (id := id)
          have hg : m.w.grownBy { m.w with drawn := m.w.drawn + 1 } none := ⟨rfl, rfl, rfl, Nat.le_refl _, fun _ _ _ => rfl⟩
          have hex : Ext m { m with w := { m.w with drawn := m.w.drawn + 1 } } := ⟨fun _ _ h => .inl h, fun _ h => h, fun _ h => h, fun _ _ => rfl⟩
          rw [hC.mixed] at hst
          have hord : ∀ z, Ord ops (fun s => s < 0) (Region.schedule true ops z) := fun z => Ord.congr (fun s => by simp) (ord_schedule (regOk_back hok) z)
          refine ⟨{ m with w := { m.w with drawn := m.w.drawn + 1 } }, b, ra, ra, _, cs, .one hst, ?_, ⟨h2.fn, h2.kind, h2.defers, h2.nt, h2.er.keep hex⟩, .ops ⟨hok, RegR.plain (regOk_back hok) (hord _)⟩ (VirtR.refl (fun q _ => by omega) ra) hk, h4.keep hex⟩
          refine ⟨h1.below.grown hg h1.bsz (by simp), h1.bsz, h1.lt, h1.nBase, h1.nN, h1.inj, fun q v hq => ?_, h1.dead⟩
          obtain ⟨B, e1, e2⟩ := h1.blk q v hq
          exact ⟨B, e1, BR.keep hex B v (fun _ _ => rfl) e2⟩
    | _ => rw [run] at h; simp [htodo] at h
  | inBlock id =>
    have hr : run C L fin n { fr with todo := k } st O = some r := by rw [run] at h; simpa only [htodo] using h
    exact Good.todo (ihn _ _ _ _ hr) fun b ra a k' cs m hf ht => by
      rw [htodo] at ht
      obtain ⟨rfl, _, rfl, hk⟩ := ht.inBlock_inv
      exact ⟨_, .one step_inBlock, .top (hk) rfl⟩
  | inScope x =>
    have hr : run C L fin n { fr with todo := k } st O = some r := by rw [run] at h; simpa only [htodo] using h
    exact Good.todo (ihn _ _ _ _ hr) fun b ra a k' cs m hf ht => by
      rw [htodo] at ht
      obtain ⟨rfl, _, rfl, hk⟩ := ht.inScope_inv
      exact ⟨_, .one (step_lone_go (by simp [stepG, stepG.exec, Frame.at])), .top (hk) rfl⟩
  | inLoop x =>
    have hr : L { fr with todo := .code x :: .inLoop x :: k } st O = some r := by rw [run] at h; simpa only [htodo] using h
    exact Good.todo (hL _ _ _ _ hr) fun b ra a k' cs m hf ht => by
      rw [htodo] at ht
      obtain ⟨rfl, _, rfl, hk⟩ := ht.inLoop_inv
      exact ⟨_, .one step_inLoop, .top (.code _ (.inLoop _ hk)) rfl⟩
  | ops reg i draw =>
    by_cases hi : reg.size ≤ i
    · have hnone : reg[i]? = none := by simpa using hi
      have hr : run C L fin n { fr with todo := k } st O = some r := by rw [run] at h; simpa only [htodo, hnone] using h
      exact Good.todo (ihn _ _ _ _ hr) fun b ra a k' cs m hf ht => by
        rw [htodo] at ht
        obtain ⟨rest, kk, rfl, hreg, hvirt, hk⟩ := ht.ops_inv
        exact ⟨_, (reg_end hreg hvirt hi b kk cs C.P m.w).trans (.one step_region_end), .top hk rfl⟩
    · have hi : i < reg.size := by omega
      by_cases hal : draw = false ∨ fixed reg i = true
      · have ho : reg[i]? = some reg[i] := Array.getElem?_eq_getElem hi
        generalize reg[i] = o at ho
        obtain ⟨⟨hd, _⟩, hh⟩ := run_op htodo ho h
        rcases hh with ⟨e', hsame, hw, hr⟩ | ⟨e', hsame, hw, hr⟩
        · refine Good.of (ihn _ _ _ _ hr) rfl fun base w0 N0 m b ra a k' cs bot h1 h2 h3 h4 => ?_
          rw [htodo] at h3
          obtain ⟨rest, kk, rfl, hreg, hvirt, hk⟩ := h3.ops_inv
          obtain ⟨rest', ra', hlead, htmp, hreg', hvirt'⟩ := op_ready (P := C.P) ho hal hreg hvirt b kk (cs ++ bot) m.w
          have hwan := wanted_of hw (a := ra') (m := m) (fun t ht => by rw [htmp t ht]; exact h2.er t)
          have hst := step_op_skip (P := C.P) (b := b) (a := ra') (k := kk) (cs := cs ++ bot) (w := m.w) (ops := reg) (i := i) (rest := rest') (by simp [ho, hwan])
          rw [ho] at hst
          exact ⟨m, b, _, _, _, cs, hlead.trans (.one hst), h1, h2.put (Ext.refl m) hd (by simp only [VR]) hsame, .ops hreg' (hvirt' undef) hk, h4⟩
        · unfold exOp at hr
          have hcond : (draw && !fixed reg i) = false := by rcases hal with q | q <;> simp [q]
          simp only [hcond, cond_false] at hr
          rcases done_all hC hr with hr | ⟨d, news, hnd, hop, hr⟩
          · -- it writes, or calls
            unfold wOp at hr
            cases hfz : frzQ C o e' O <;> simp only [hfz, cond_true, cond_false] at hr
            case true =>
              unfold frzQ at hfz
              simp only [Bool.and_eq_true] at hfz
              have hg := fz_good (fr := { fr with env := e', todo := .ops reg i draw :: k }) hfz.2 (ihn _ _ _ _ hr)
              refine Good.of hg rfl fun base w0 N0 m b ra a k' cs bot h1 h2 h3 h4 => ?_
              exact ⟨m, b, ra, a, k', cs, .refl _ _, h1, ⟨h2.fn, h2.kind, h2.defers, h2.nt, h2.er.same hsame.symm⟩, by rw [htodo] at h3; exact h3, h4⟩
            have writes : (evW C o e' O O.length fun d O' => run C L fin n { fr with env := putD o.dst d e', todo := .ops reg (i + 1) draw :: k } st O') = some r → Good C fin fr st O r := by
              intro hr
              obtain ⟨d, O', hop, hr⟩ := evW_done hr
              refine Good.of (ihn _ _ _ _ hr) rfl fun base w0 N0 m b ra a k' cs bot h1 h2 h3 h4 => ?_
              rw [htodo] at h3
              obtain ⟨rest, kk, rfl, hreg, hvirt, hk⟩ := h3.ops_inv
              obtain ⟨rest', ra', hlead, htmp, hreg', hvirt'⟩ := op_ready (P := C.P) ho hal hreg hvirt b kk (cs ++ bot) m.w
              have hwan := wanted_of hw (a := ra') (m := m) (fun t ht => by rw [htmp t ht]; exact h2.er t)
              have hw' := hop base w0 N0 m ra' h1 (opds_of (ops := reg) fun t ht => by rw [hsame t, htmp t ht]; exact h2.er t)
                (fun a' w' => ∃ v m', a' = ra'.put o.dst v ∧ m'.w = w' ∧ Ext m m' ∧ MR base w0 N0 m' O' ∧ VR m' d v) (fun v m' g1 g2 g3 => ⟨v, m', rfl, rfl, g1, g2, g3⟩)
              obtain ⟨a', w', ⟨v, m', rfl, rfl, g1, g2, g3⟩, hst⟩ := op_steps hw' ho hwan b kk (cs ++ bot) rest'
              exact ⟨m', b, _, _, _, cs, hlead.trans hst, g2, h2.put g1 hd g3 hsame, .ops hreg' (hvirt' v) hk, h4.keep g1⟩
            split at hr
            · rename_i c hop
              split at hr
              · exact writes hr
              · split at hr
                · rename_i g args htar
                  split at hr
                  · rename_i f hent
                    unfold enter at hent
                    split at hent
                    · rename_i fn hfn
                      split at hent
                      · rename_i body hbody
                        simp at hent
                        subst hent
                        have hlast : (fr.fn :: st.map (·.fn)).getLast? = (g :: ({ fr with env := e', todo := .ops reg i draw :: k } :: st).map (·.fn)).getLast? := by simp [List.getLast?_cons_cons]
                        refine Good.of (ihn _ _ _ _ hr) hlast fun base w0 N0 m b ra a k' cs bot h1 h2 h3 h4 => ?_
                        rw [htodo] at h3
                        obtain ⟨rest, kk, rfl, hreg, hvirt, hk⟩ := h3.ops_inv
                        · obtain ⟨rest', ra', hlead, htmp, hreg', hvirt'⟩ := op_ready (P := C.P) ho hal hreg hvirt b kk (cs ++ bot) m.w
                          have hwan := wanted_of hw (a := ra') (m := m) (fun t ht => by rw [htmp t ht]; exact h2.er t)
                          have her := h2.er.same hsame.symm
                          have hop2 : ∀ x ∈ o.op.operands, VR m (opd e' x) (ra'.eval x) := opds_of (ops := reg) fun t ht => by rw [hsame t, htmp t ht]; exact h2.er t
                          have hrun : ∃ vs : Array Value, VRL m args vs.toList ∧ (execOp ra'.eval o).run C.P m.w = .ok (.enter g vs) m.w := by
                            have q1 : ¬ fn.name = "runtime.NumGoroutine" := by simpa using hC.name g fn hfn
                            have q2 : ¬ fn.body = none := by rw [hbody]; simp
                            have hargs : VRL m (c.args.toList.map (opd e')) (c.args.map ra'.eval).toList := by
                              have := VRL.map (m := m) (opd e') ra'.eval c.args.toList (fun z hz => hop2 z (by
                                simp only [hop, Op.operands, Call.operands]
                                simp only [Array.mem_append]
                                exact .inr (by simpa using hz)))
                              simpa using this
                            unfold target at htar
                            split at htar
                            · rename_i fo hcal
                              split at htar
                              · rename_i g' x y hfo
                                simp at htar
                                obtain ⟨rfl, rfl⟩ := htar
                                obtain ⟨fs, cps, e1, e2, e3⟩ := fnOf_rel hfo (hop2 fo (by simp [hop, Op.operands, Call.operands, hcal]))
                                refine ⟨fs ++ c.args.map ra'.eval ++ cps, ?_, ?_⟩
                                · have := e2.append (hargs.append e3)
                                  simpa using this
                                · unfold execOp
                                  simp [hop, hcal, resolve, Deferred.ofValue, invoke, callFunc, hfn, q1, q2, e1]
                              · simp at htar
                            · rename_i fo nm hcal
                              split at htar
                              · rename_i g' d hmt
                                simp at htar
                                obtain ⟨rfl, rfl⟩ := htar
                                obtain ⟨t, u, e1, e2, e3⟩ := methodT_rel hmt (hop2 fo (by simp [hop, Op.operands, Call.operands, hcal]))
                                refine ⟨#[u] ++ c.args.map ra'.eval, ?_, ?_⟩
                                · simp only [VRL]
                                  exact ⟨u, (c.args.map ra'.eval).toList, by simp, e2, hargs⟩
                                · have hcf : (callFunc g' (#[u] ++ c.args.map ra'.eval)).run C.P m.w = .ok (.enter g' (#[u] ++ c.args.map ra'.eval)) m.w := by
                                    simp [callFunc, hfn, q1, q2]
                                  unfold execOp
                                  simp only [hop, hcal, resolve, Sem.run_bind, Sem.run_pure, Result.andThen_ok, invoke_method, e1, callMethod_run e3, hcf]
                              · simp at htar
                            · simp at htar
                          obtain ⟨vs, hall, hrun⟩ := hrun
                          have hg := stepG_op (P := C.P) (b := b) (a := ra') (k := kk) (cs := cs ++ bot) (w := m.w) (rest := rest') ho hwan
                          have henter : step C.P (lone (b.at ra' (.inRegion reg (i :: rest') :: kk)) (cs ++ bot) m.w) =
                              .next (lone (Frame.enter C.P g vs .normal) (b.at ra' (.inRegion reg (i :: rest') :: kk) :: (cs ++ bot)) m.w) :=
                            step_lone_go (by rw [hg]; simp [stepG.apply, hrun, Frame.at])
                          have hfe : Frame.enter C.P g vs .normal = (Frame.enter C.P g vs .normal).at ⟨vs ++ Array.replicate (fn.ntmps - vs.size) undef, []⟩ [.code body] := by
                            simp only [Frame.enter, Frame.at, hfn, Option.map_some, Option.getD_some, Option.bind_some, hbody]
                          rw [hfe] at henter
                          refine ⟨m, _, _, _, _, b.at ra' (.inRegion reg (i :: rest') :: kk) :: cs, hlead.trans (.one henter), h1, ⟨rfl, rfl, rfl, ?_, ?_⟩, .top (.code _ .nil) rfl, ?_⟩
                          · simp; omega
                          · simpa using argEnv_er hall _
                          · exact ⟨_, _, rfl, ⟨reg, i, draw, k, b, ra', a, rest', kk, o, rfl, ho, hd, rfl, ⟨h2.fn, h2.kind, h2.defers, h2.nt, her⟩, hreg', hk, hvirt'⟩, h4⟩
                      · simp at hent
                    · simp at hent
                  · simp at hr
                · simp at hr
            · exact writes hr
          · refine Good.of (ihn _ _ _ _ hr) rfl fun base w0 N0 m b ra a k' cs bot h1 h2 h3 h4 => ?_
            rw [htodo] at h3
            obtain ⟨rest, kk, rfl, hreg, hvirt, hk⟩ := h3.ops_inv
            · obtain ⟨rest', ra', hlead, htmp, hreg', hvirt'⟩ := op_ready (P := C.P) ho hal hreg hvirt b kk (cs ++ bot) m.w
              have hwan := wanted_of hw (a := ra') (m := m) (fun t ht => by rw [htmp t ht]; exact h2.er t)
              have hw' := hop base w0 N0 m (O ++ news) ra' (h1.grow news hnd) (opds_of (ops := reg) fun t ht => by rw [hsame t, htmp t ht]; exact h2.er t)
                (fun q B _ hq => by rw [List.getElem?_append_left (List.getElem?_eq_some_iff.1 hq).1]; exact hq) (fun q B hq => by rw [List.getElem?_append_right (by omega)]; simpa using hq) (fun q _ => h1.free q)
                (fun a' w' => ∃ v m', a' = ra'.put o.dst v ∧ m'.w = w' ∧ Ext m m' ∧ MR base w0 N0 m' (O ++ news) ∧ VR m' d v) (fun v m' g1 g2 g3 _ _ => ⟨v, m', rfl, rfl, g1, g2, g3⟩)
              obtain ⟨a', w', ⟨v, m', rfl, rfl, g1, g2, g3⟩, hst⟩ := op_steps hw' ho hwan b kk (cs ++ bot) rest'
              exact ⟨m', b, _, _, _, cs, hlead.trans hst, g2, h2.put g1 hd g3 hsame, .ops hreg' (hvirt' v) hk, h4.keep g1⟩
      · have hdraw : draw = true := by
          cases draw
          · exact (hal (.inl rfl)).elim
          · rfl
        subst hdraw
        have hp : fixed reg i = false := by
          cases hq : fixed reg i
          · rfl
          · exact (hal (.inr hq)).elim
        obtain ⟨M, F, e', n', hlt, hsame, hall, hseg, ⟨hdist, hhot, hlo⟩, hr⟩ := collect hC _ fr O i htodo h hi hp
        refine Good.of (ih n' (by omega) _ _ _ _ hr) rfl fun base w0 N0 m b ra a k' cs bot h1 h2 h3 h4 => ?_
        rw [htodo] at h3
        obtain ⟨rest, kk, rfl, hreg, hvirt, hk⟩ := h3.ops_inv
        · obtain ⟨hok, hregr⟩ := hreg
          have hnop : ∀ q ∈ rest, ¬ q < i := fun q hq hlt => by
            have := (hregr.2.2 q hq hlt).2
            simp only [fixed, this, Bool.or_true] at hp
            exact absurd hp (by simp)
          have hra : ra = a := VirtR.same hnop hvirt
          subst hra
          have hord : Ord reg (fun s => s < i) rest := Ord.congr (fun j => ⟨fun q => q.1, fun q => ⟨q, fun hm => hnop j hm q⟩⟩) hregr.1
          have hnews : ∀ t, t ≤ M → ∀ s B, (heapA O F t)[s]? = some B → O.length ≤ s → B ≠ Blk.dead := by
            intro t
            induction t with
            | zero =>
              intro _ s B hs hge
              have := (List.getElem?_eq_some_iff.1 hs).1
              simp only [heapA] at this
              omega
            | succ t iht =>
              intro ht s B hs hge
              simp only [heapA] at hs
              by_cases hlen : s < (heapA O F t).length
              · rw [List.getElem?_append_left hlen] at hs
                exact iht (by omega) s B hs hge
              · rw [List.getElem?_append_right (by omega)] at hs
                obtain ⟨_, _, _, _, hnd, _⟩ := hall t (by omega)
                exact hnd B (List.mem_of_getElem? hs)
          obtain ⟨tail, htail⟩ := heapA_pre O F (Nat.zero_le M)
          have hm : MR base w0 N0 m (heapA O F M) := by
            have ht : heapA O F M = O ++ tail := htail
            rw [ht]
            refine h1.grow tail fun B hB => ?_
            obtain ⟨s, hs⟩ := List.getElem?_of_mem hB
            exact hnews M (Nat.le_refl _) (O.length + s) B (by rw [ht, List.getElem?_append_right (by omega)]; simpa using hs) (by omega)
          have hcl : Closed reg (fun s => s < i ∨ ∃ t, t < M ∧ s = i + t ∧ (fun _ => false) t = true) := by
            intro j o e ho hj he hb
            rcases hj with hj | ⟨t, _, _, h⟩
            · have := regOk_back hok j o e ho he hb
              exact .inl (by omega)
            · simp at h
          obtain ⟨rest', ra', a', m', s1, ⟨s2, s2'⟩, s3, s4, s5, s6, s7⟩ := flush (C := C) hok hall hdist hhot hlo hseg b kk (cs ++ bot) _ (fun _ => false) ra m (Ord.congr (fun s => by simp) hord) hcl (by rw [setsD_none]; exact hm)
            (fun x => by rw [vA_none]; exact h2.er x) (fun t ht _ q hq => by
              have : O.length ≤ (heapA O F t).length := by
                obtain ⟨tl, htl⟩ := heapA_pre O F (Nat.zero_le t)
                have : heapA O F t = O ++ tl := htl
                rw [this]; simp
              obtain ⟨z, hz⟩ : ∃ z, (heapA O F t).length + q = O.length + z := ⟨(heapA O F t).length + q - O.length, by omega⟩
              rw [hz]
              exact h1.free z) h2.nt
          exact ⟨m', b, ra', a', _, cs, s1, s3, ⟨h2.fn, h2.kind, by rw [s7]; exact h2.defers, by rw [s6]; exact h2.nt, s5.same hsame.symm⟩, .ops ⟨hok, s2⟩ s2' hk, h4.keep s4⟩
end
end Go.AM
