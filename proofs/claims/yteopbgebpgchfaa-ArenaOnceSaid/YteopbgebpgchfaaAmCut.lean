/- DERIVED. NO CLAIM IN IT. Loops, by what is to be shown of a state at their heads. -/
import Derived.Test.YteopbgebpgchfaaAmSpec
set_option linter.unusedVariables false
set_option linter.unusedSimpArgs false
namespace Go.AM
open Go.RowKit
section
variable {R : Type}

/-- Runs up to the loop heads that are told (T); other loops are gone through, n rounds at most. -/
noncomputable def bigK (C : Ctx) (T : List Cut) (fin : DV → Heap → Option R) (fuel : Nat) (K : Fr → List Fr → Heap → Option R) : Nat → Fr → List Fr → Heap → Option R
  | 0, _, _, _ => none
  | n + 1, fr, st, O => run C (fun fr st O =>
      match fr.todo with
      | .code b :: _ => (match cutOf fr.fn (regId b) T with
        | some _ => (match canon C.P T fr st O with
          | some (fr', st', O') => K fr' st' O'
          | none => none)
        | none => bigK C T fin fuel K n fr st O)
      | _ => none) fin fuel fr st O

variable {C : Ctx} {fin : DV → Heap → Option R}

theorem bigK_good (hC : C.OK) {T : List Cut} {fuel : Nat} {K : Fr → List Fr → Heap → Option R} (hK : ∀ fr st O r, K fr st O = some r → Good C fin fr st O r) :
    ∀ (n : Nat) (fr : Fr) (st : List Fr) (O : Heap) (r : R), bigK C T fin fuel K n fr st O = some r → Good C fin fr st O r
  | 0, fr, st, O, r, h => by simp [bigK] at h
  | n + 1, fr, st, O, r, h => by
    rw [bigK] at h
    refine sim hC (fun fr st O r h => ?_) fuel fr st O r h
    split at h
    · split at h
      · split at h
        · rename_i fr' st' O' hc
          exact canon_good hc (hK _ _ _ _ h)
        · simp at h
      · exact bigK_good hC hK n _ _ _ _ h
    · simp at h

open Classical in
/-- The states that come to r. -/
noncomputable def hold (C : Ctx) (fin : DV → Heap → Option R) (r : R) : Fr → List Fr → Heap → Option R := fun fr st O => if Good C fin fr st O r then some r else none

theorem hold_of {fr : Fr} {st : List Fr} {O : Heap} {r : R} (h : Good C fin fr st O r) : hold C fin r fr st O = some r := by simp [hold, h]

theorem of_hold {fr : Fr} {st : List Fr} {O : Heap} {r r' : R} (h : hold C fin r fr st O = some r') : Good C fin fr st O r' := by
  unfold hold at h
  split at h
  · simp at h; subst h; assumption
  · simp at h

theorem good_step (hC : C.OK) {T : List Cut} {fuel n : Nat} {fr : Fr} {st : List Fr} {O : Heap} {r : R} (h : bigK C T fin fuel (hold C fin r) n fr st O = some r) : Good C fin fr st O r :=
  bigK_good hC (fun _ _ _ _ h => of_hold h) n fr st O r h
end

/-! ### States -/
def findL : Code → List It → Nat → Option (List It)
  | .seq a b, k, r => (match findL a (.code b :: k) r with | some x => some x | none => findL b k r)
  | .cond _ a b, k, r => (match findL a k r with | some x => some x | none => findL b k r)
  | .block id b, k, r => findL b (.inBlock id :: k) r
  | .loop b, k, r => bif Nat.beq (regId b) r then some (.code b :: .inLoop b :: k) else findL b (.inLoop b :: k) r
  | .scope b, k, r => findL b (.inScope b :: k) r
  | _, _, _ => none

def findO (i : Nat) : Code → List It → Nat → Option (List It)
  | .seq a b, k, r => (match findO i a (.code b :: k) r with | some x => some x | none => findO i b k r)
  | .cond _ a b, k, r => (match findO i a k r with | some x => some x | none => findO i b k r)
  | .block id b, k, r => findO i b (.inBlock id :: k) r
  | .loop b, k, r => findO i b (.inLoop b :: k) r
  | .scope b, k, r => findO i b (.inScope b :: k) r
  | .region id ops draw, k, r => bif Nat.beq id r then some (.ops ops i draw :: k) else none
  | _, _, _ => none

/-- The head of a function's loop, whose body begins with a region. -/
def headS (P : Program) (fn reg : Nat) (env : Env) : Fr :=
  match P.funcs[fn]? with
  | some f => (match f.body with
    | some c => (match findL c [] reg with
      | some k => ⟨fn, f.ntmps, env, k⟩
      | none => ⟨fn, 0, env, []⟩)
    | none => ⟨fn, 0, env, []⟩)
  | none => ⟨fn, 0, env, []⟩

/-- A function that waits at an operation of a region. -/
def waitS (P : Program) (fn reg i : Nat) (env : Env) : Fr :=
  match P.funcs[fn]? with
  | some f => (match f.body with
    | some c => (match findO i c [] reg with
      | some k => ⟨fn, f.ntmps, env, k⟩
      | none => ⟨fn, 0, env, []⟩)
    | none => ⟨fn, 0, env, []⟩)
  | none => ⟨fn, 0, env, []⟩

/-! ### Contracts and laws of what comes to its end -/
theorem contract_ofG {C : Ctx} (hC : C.OK) {f : FuncId} {fn : Func} {body : Code} (hf : C.P.funcs[f]? = some fn) (hb : fn.body = some body) {ts : List (Option Ty)} (hts : ts.all okTy = true) {sp : Spec}
    (h : ∀ (args : List DV) (nx : Nat) (d : DV) (news : List Blk), sp.den args nx d news → Good C (finF C.P ts) { fn := f, nt := fn.ntmps, env := argEnv 0 args, todo := [.code body] } [] [] (d, news)) : Contract C.P f sp := by
  intro args nx d news hden hless base w0 N0 m O' vs hm hargs _ hfree cs
  have hk := h args nx d news hden
  let m1 : Mem := { ρ := fun _ => none, N := m.N, D := fun _ => False, w := m.w }
  have hm1 : MR m.w.heap.size m.w m.N m1 [] :=
    ⟨Below.refl _ _, Nat.le_refl _, hm.lt, fun b hb => .inl hb, fun n v b hv => by simp [m1] at hv, fun n k v u b hv => by simp [m1] at hv, fun n v hv => by simp [m1] at hv, fun n => by simp [m1]⟩
  have ha1 := VRL.less (m := m) (m' := m1) (fun _ h => h) (fun _ _ => rfl) args _ hless hargs
  have hfr : FRel m1 { fn := f, nt := fn.ntmps, env := argEnv 0 args, todo := [.code body] } (Frame.enter C.P f vs .normal) ⟨vs ++ Array.replicate (fn.ntmps - vs.size) undef, []⟩ :=
    ⟨rfl, rfl, rfl, by simp; omega, argEnv_er ha1 _⟩
  obtain ⟨d0, O2, m2, v, frE, e1, e2, e3, e4, e5, e6⟩ := hk m.w.heap.size m.w m.N m1 _ _ _ [.code body] [] cs hm1 hfr (.top (.code _ .nil) rfl) rfl
  have hfz : FrzOK m2 (m2.frz m m.w.heap.size) m.w.heap.size := ⟨rfl, fun b hb => by
    rcases e5.nBase b hb with q | q
    · exact .inl q
    · exact .inr ⟨q, e5.lt b hb⟩, fun b h1 h2 => .inr ⟨h1, h2⟩⟩
  obtain ⟨hv, hnews⟩ := finF_rel hts e5 hfz e1 e6
  subst hnews
  have hext : Ext m (m2.frz m m.w.heap.size) := ⟨fun _ _ h => .inl h, fun b h => .inl h, fun _ h => h, fun b hb => e5.below.block b (hm.lt b hb)⟩
  have hsz := e5.bsz
  refine ⟨.returned v, m2.w, frE, ⟨v, m2.frz m m.w.heap.size, rfl, rfl, hext, ?_, hv, fun n h hh => .inl hh, fun k hk => by simp at hk⟩, ?_, ?_, e4⟩
  · have hb2 := hm.bsz
    refine ⟨hm.below.trans (e5.below.mono hb2), Nat.le_trans hb2 hsz, ?_, ?_, ?_, hm.inj, ?_, hm.dead⟩
    · rintro b (h | h)
      · exact Nat.lt_of_lt_of_le (hm.lt b h) hsz
      · exact h.2
    · rintro b (h | h)
      · exact hm.nBase b h
      · exact .inr (Nat.le_trans hb2 h.1)
    · intro n u b hu hbu
      obtain ⟨q1, q2, q3⟩ := hm.nN n u b hu hbu
      refine ⟨?_, q2, Nat.lt_of_lt_of_le q3 hsz⟩
      rintro (h | h)
      · exact q1 h
      · exact absurd q3 (by omega)
    · intro n u hu
      obtain ⟨B, q1, q2⟩ := hm.blk n u hu
      exact ⟨B, q1, BR.keep hext B u (fun b hb => e5.below.block b (hm.nN n u b hu hb).2.2) q2⟩
  · have : Frame.enter C.P f vs .normal = (Frame.enter C.P f vs .normal).at ⟨vs ++ Array.replicate (fn.ntmps - vs.size) undef, []⟩ [.code body] := by
      simp only [Frame.enter, Frame.at, hf, Option.map_some, Option.getD_some, Option.bind_some, hb]
    rw [← this] at e2
    exact e2
  · simpa using e3

theorem contract_fnG {C : Ctx} (hC : C.OK) {f : FuncId} {fn : Func} {body : Code} (hf : C.P.funcs[f]? = some fn) (hb : fn.body = some body) {rs : List (Option Ty)} (hrs : rs.all okTy = true) {ts : List Ty} (hts : (ts.all fun t => okTy (some t)) = true)
    {pre : Args ts → Bool} {res : Args ts → DV}
    (h : ∀ a, pre a = true → Good C (finF C.P rs) (startA C.P f (datA ts a)) [] [] (res a, [])) : Contract C.P f (fnSpec ts pre res) := by
  rintro args nx d news ⟨a, ha, hp, rfl, rfl⟩ hless base w0 N0 m O' vs hm hargs hnews hfree
  have hvs := argP_rel hts ha hargs
  let sp : Spec := { cps := fun _ _ _ => none, den := fun b nx d news => b = datA ts a ∧ d = res a ∧ news = [], nd := fun a nx d news h => by simp [h.2.2], ok := fun a nx K r h => by simp at h }
  have hcon : Contract C.P f sp := contract_ofG hC hf hb (ts := rs) hrs (by
    rintro b nx d news ⟨rfl, rfl, rfl⟩
    have := h a hp
    rw [startA_eq hf hb] at this
    exact this)
  exact hcon (datA ts a) nx (res a) [] ⟨rfl, rfl, rfl⟩ (datA_less ts a) base w0 N0 m O' vs hm hvs hnews hfree

theorem law_fnG {C : Ctx} (hC : C.OK) {f : FuncId} {fn : Func} {body : Code} (hf : C.P.funcs[f]? = some fn) (hb : fn.body = some body) {ts : List Ty} (a : Args ts) {vs : Array Value} {W : World}
    (hargs : VRL (mem0 W) (datA ts a) vs.toList) (hk : Good C (finF C.P [some .bool]) (startA C.P f (datA ts a)) [] [] (.dat .bool true, [])) :
    Calls C.P f vs W fun e W' => e = .returned (.bool true) ∧ Below W.heap.size W W' := by
  let sp : Spec := { cps := fun _ _ _ => none, den := fun b nx d news => b = datA ts a ∧ d = .dat .bool true ∧ news = [], nd := fun a nx d news h => by simp [h.2.2], ok := fun a nx K r h => by simp at h }
  have hcon : Contract C.P f sp := contract_ofG hC hf hb (ts := [some .bool]) rfl (by
    rintro b nx d news ⟨rfl, rfl, rfl⟩
    rw [startA_eq hf hb] at hk
    exact hk)
  refine (hcon (datA ts a) 0 (.dat .bool true) [] ⟨rfl, rfl, rfl⟩ (datA_less ts a) W.heap.size W _ (mem0 W) [] vs (mem0_MR W) hargs (by simp) (by simp)).mono ?_
  rintro e W' ⟨v, m', rfl, rfl, _, hm, hv, _⟩
  have := of_bool hv
  subst this
  exact ⟨rfl, hm.below⟩
end Go.AM
