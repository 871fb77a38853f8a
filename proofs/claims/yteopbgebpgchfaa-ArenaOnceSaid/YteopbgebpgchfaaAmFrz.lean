/- DERIVED. NO CLAIM IN IT. What a run gives is data that stays: from a run to a function's contract. -/
import Derived.Test.YteopbgebpgchfaaAmLoop
set_option linter.unusedVariables false
set_option linter.unusedSimpArgs false
namespace Go.AM
open Go.RowKit

mutual
def frz (P : Program) (O : Heap) : DV → Option DV
  | .dat t x => some (.dat t x)
  | .raw v => some (.raw v)
  | .e0 => some .e0
  | .fp t x off => some (.fp t x off)
  | .sl n => (match O[n]? with
    | some (.row _ t xs) => some (.dat (.sl t) xs)
    | _ => none)
  | .sw n z a b => (match O[n]? with
    | some (.row _ t xs) => bif Nat.beq z (csz t) then some (.dat (.sl t) (sub xs a b)) else none
    | _ => none)
  | .agg cs => (match frzL P O cs with
    | some l => some (.agg l)
    | none => none)
  | .ifc t d => (match frz P O d with
    | some x => some (.ifc t x)
    | none => none)
  | .tup ds => (match frzL P O ds with
    | some l => some (.tup l)
    | none => none)
  | _ => none
def frzL (P : Program) (O : Heap) : List DV → Option (List DV)
  | [] => some []
  | d :: r => (match frz P O d with
    | some x => (match frzL P O r with
      | some l => some (x :: l)
      | none => none)
    | none => none)
end

/-- Put into the form of a type, where it is told. -/
def shape (t : Option Ty) (d : DV) : Option DV :=
  match t with
  | some t => (match toEl t d with
    | some x => some (.dat t x)
    | none => none)
  | none => some d

def shapeL : List (Option Ty) → List DV → Option (List DV)
  | [], [] => some []
  | t :: ts, d :: r => (match shape t d with
    | some x => (match shapeL ts r with
      | some l => some (x :: l)
      | none => none)
    | none => none)
  | _, _ => none

/-- A function's results as data that stays. -/
def finF (P : Program) (ts : List (Option Ty)) (d : DV) (O : Heap) : Option (DV × List Blk) :=
  match frz P O d with
  | some (.tup ds) => (match shapeL ts ds with
    | some l => some (.tup l, [])
    | none => none)
  | some d => (match ts with
    | [t] => (match shape t d with
      | some x => some (x, [])
      | none => none)
    | _ => none)
  | none => none

/-- The memory when all that was made is to stay. -/
def Mem.frz (m m0 : Mem) (base : Nat) : Mem := { ρ := m0.ρ, N := fun b => m0.N b ∨ (base ≤ b ∧ b < m.w.heap.size), D := m0.D, w := m.w }

structure FrzOK (m m3 : Mem) (base : Nat) : Prop where
  w : m3.w = m.w
  N : ∀ b, m.N b → m3.N b
  new : ∀ b, base ≤ b → b < m.w.heap.size → m3.N b

theorem FrzOK.rep {m m3 : Mem} {base : Nat} (h : FrzOK m m3 base) {t : Ty} {x : El t} {cs : List Value} (q : RepC m.N m.w t x cs) : RepC m3.N m3.w t x cs :=
  RepC.keep h.N (fun _ _ => by rw [h.w]) t x cs q

theorem own_dat {m m3 : Mem} {base : Nat} {w0 : World} {N0 : Nat → Prop} {O : Heap} (hm : MR base w0 N0 m O) (h : FrzOK m m3 base) {n : Nat} {e : TypeId} {t : Ty} {xs : List (El t)} (hO : O[n]? = some (.row e t xs)) {a : Option Addr} {len cap : Nat}
    (hr : m.ρ n = some (.slice a len cap)) {lo hi : Int} {a' : Option Addr} {c' : Nat} (h0 : 0 ≤ lo) (h1 : lo ≤ hi) (h2 : hi ≤ xs.length) (hc : (hi - lo).toNat ≤ c') (hcm : c' ≤ maxLen)
    (ha : lo < hi → ∃ b, a = some ⟨b, 0, none⟩ ∧ a' = some ⟨b, lo.toNat * csz t, none⟩) : VR m3 (.dat (.sl t) (sub xs lo hi)) (.slice a' (hi - lo).toNat c') :=
  fz_dat hm h.w h.N hO hr (fun b hb => by have hn := hm.nN n _ b hr hb; exact h.new b hn.2.1 hn.2.2) h0 h1 h2 hc hcm ha

theorem frz_dat {m m3 : Mem} {base : Nat} (h : FrzOK m m3 base) {t : Ty} {x : El t} {v : Value} (q : VR m (.dat t x) v) : VR m3 (.dat t x) v := by
  simp only [VR] at q ⊢
  obtain ⟨cs, h1, h2⟩ := q
  exact ⟨cs, h.rep h1, h2⟩

mutual
theorem frz_rel {P : Program} {m m3 : Mem} {base : Nat} {w0 : World} {N0 : Nat → Prop} {O : Heap} (hm : MR base w0 N0 m O) (h : FrzOK m m3 base) : ∀ (d d' : DV) (v : Value), frz P O d = some d' → VR m d v → VR m3 d' v
  | .dat t x, d', v, hf, q => by simp [frz] at hf; subst hf; exact frz_dat h q
  | .raw u, d', v, hf, q => by simp [frz] at hf; subst hf; simpa only [VR] using q
  | .e0, d', v, hf, q => by simp [frz] at hf; subst hf; simpa only [VR] using q
  | .fp t x off, d', v, hf, q => by
    simp [frz] at hf; subst hf
    simp only [VR] at q ⊢
    obtain ⟨b, o, cs, h1, h2, h3, h4⟩ := q
    exact ⟨b, o, cs, h.rep h1, h.N b h2, by rw [h.w]; exact h3, h4⟩
  | .sl n, d', v, hf, q => by
    simp only [frz] at hf
    split at hf
    · rename_i e t xs hO
      simp at hf
      subst hf
      simp only [VR] at q
      rcases q with q | ⟨q, _⟩
      · exact (notdead hm (fun _ _ _ h => h) hO (by simp) q.1).elim
      obtain ⟨vs, ⟨a, cap, e1, e2, e3⟩, e4⟩ := blk_of hm (fun _ _ _ h => h) hO q
      subst e1
      have hcap : xs.length ≤ cap ∧ cap ≤ maxLen := by
        rcases e3 with ⟨g1, g2⟩ | ⟨b, cur, _, _, _, g1, g2, _⟩
        · rw [g1, g2]; exact ⟨Nat.le_refl _, by unfold maxLen; omega⟩
        · exact ⟨g1, g2⟩
      have := own_dat hm h hO q (lo := 0) (hi := (xs.length : Int)) (a' := a) (c' := cap) (by omega) (by omega) (by omega) (by simpa using hcap.1) hcap.2 (fun hlt => by
        rcases e3 with ⟨_, g2⟩ | ⟨b, cur, g1, _⟩
        · omega
        · exact ⟨b, g1, by simpa using g1⟩)
      have hs : sub xs 0 (xs.length : Int) = xs := by simp [sub]
      rw [hs] at this
      simpa using this
    · simp at hf
  | .sw n z lo hi, d', v, hf, q => by
    simp only [frz] at hf
    split at hf
    · rename_i e t xs hO
      cases hz : Nat.beq z (csz t) <;> simp only [hz, cond_true, cond_false] at hf
      · simp at hf
      have hz := Nat.eq_of_beq_eq_true hz
      subst hz
      simp at hf
      subst hf
      simp only [VR] at q
      rcases q with q | ⟨a, len, cap, a', c', q1, rfl, q3, q4, q5, q6, q7, q8, q9⟩
      · exact (notdead hm (fun _ _ _ h => h) hO (by simp) q.1).elim
      obtain ⟨vs, ⟨a1, cap1, e1, e2, e3⟩, e4⟩ := blk_of hm (fun _ _ _ h => h) hO q1
      simp at e1
      obtain ⟨rfl, rfl, rfl⟩ := e1
      exact own_dat hm h hO q1 q3 q4 q5 q6 q7 q9
    · simp at hf
  | .agg cs, d', v, hf, q => by
    simp only [frz] at hf
    split at hf
    · rename_i l hl
      simp at hf; subst hf
      simp only [VR] at q ⊢
      obtain ⟨vs, h1, h2⟩ := q
      exact ⟨vs, h1, frzL_rel hm h cs l _ hl h2⟩
    · simp at hf
  | .ifc t d, d', v, hf, q => by
    simp only [frz] at hf
    split at hf
    · rename_i x hx
      simp at hf; subst hf
      simp only [VR] at q ⊢
      obtain ⟨u, h1, h2⟩ := q
      exact ⟨u, h1, frz_rel hm h d x u hx h2⟩
    · simp at hf
  | .tup ds, d', v, hf, q => by
    simp only [frz] at hf
    split at hf
    · rename_i l hl
      simp at hf; subst hf
      simp only [VR] at q ⊢
      obtain ⟨vs, h1, h2⟩ := q
      exact ⟨vs, h1, frzL_rel hm h ds l _ hl h2⟩
    · simp at hf
  | .un, d', v, hf, q => by simp [frz] at hf
  | .ptr _ _, d', v, hf, q => by simp [frz] at hf
  | .ep _ _ _ _, d', v, hf, q => by simp [frz] at hf
  | .mp _, d', v, hf, q => by simp [frz] at hf
  | .clo _ _ _, d', v, hf, q => by simp [frz] at hf
  | .ub, d', v, hf, q => by simp [frz] at hf
theorem frzL_rel {P : Program} {m m3 : Mem} {base : Nat} {w0 : World} {N0 : Nat → Prop} {O : Heap} (hm : MR base w0 N0 m O) (h : FrzOK m m3 base) : ∀ (ds ds' : List DV) (vs : List Value), frzL P O ds = some ds' → VRL m ds vs → VRL m3 ds' vs
  | [], ds', vs, hf, q => by simp [frzL] at hf; subst hf; simpa only [VRL] using q
  | d :: r, ds', vs, hf, q => by
    simp only [frzL] at hf
    split at hf
    · rename_i x hx
      split at hf
      · rename_i l hl
        simp at hf; subst hf
        simp only [VRL] at q ⊢
        obtain ⟨v, vr, h1, h2, h3⟩ := q
        exact ⟨v, vr, h1, frz_rel hm h d x v hx h2, frzL_rel hm h r l vr hl h3⟩
      · simp at hf
    · simp at hf
end

def okTy : Option Ty → Bool
  | some .nil => false
  | some (.cons _ _) => false
  | _ => true

theorem shape_rel {m : Mem} {t : Option Ty} (ht : okTy t = true) {d d' : DV} {v : Value} (h : shape t d = some d') (hv : VR m d v) : VR m d' v := by
  unfold shape at h
  split at h
  · rename_i t
    split at h
    · rename_i x hx
      simp at h; subst h
      exact toEl_rel (by rintro rfl; simp [okTy] at ht) (by rintro a b rfl; simp [okTy] at ht) hx hv
    · simp at h
  · simp at h; subst h; exact hv

theorem shapeL_rel {m : Mem} : ∀ {ts : List (Option Ty)} {ds ds' : List DV} {vs : List Value}, ts.all okTy = true → shapeL ts ds = some ds' → VRL m ds vs → VRL m ds' vs
  | [], [], ds', vs, _, h, q => by simp [shapeL] at h; subst h; exact q
  | [], _ :: _, ds', vs, _, h, q => by simp [shapeL] at h
  | _ :: _, [], ds', vs, _, h, q => by simp [shapeL] at h
  | t :: ts, d :: r, ds', vs, ht, h, q => by
    simp only [List.all_cons, Bool.and_eq_true] at ht
    simp only [shapeL] at h
    split at h
    · rename_i x hx
      split at h
      · rename_i l hl
        simp at h; subst h
        simp only [VRL] at q ⊢
        obtain ⟨v, vr, h1, h2, h3⟩ := q
        exact ⟨v, vr, h1, shape_rel ht.1 hx h2, shapeL_rel ht.2 hl h3⟩
      · simp at h
    · simp at h

theorem finF_rel {P : Program} {ts : List (Option Ty)} (ht : ts.all okTy = true) {m m3 : Mem} {base : Nat} {w0 : World} {N0 : Nat → Prop} {O : Heap} (hm : MR base w0 N0 m O) (h : FrzOK m m3 base) {d d' : DV} {news : List Blk} {v : Value}
    (hf : finF P ts d O = some (d', news)) (hv : VR m d v) : VR m3 d' v ∧ news = [] := by
  unfold finF at hf
  split at hf
  · rename_i ds hd
    split at hf
    · rename_i l hl
      simp at hf
      obtain ⟨rfl, rfl⟩ := hf
      have := frz_rel hm h d _ v hd hv
      simp only [VR] at this ⊢
      obtain ⟨vs, h1, h2⟩ := this
      exact ⟨⟨vs, h1, shapeL_rel ht hl h2⟩, by simp⟩
    · simp at hf
  · rename_i d1 hd
    split at hf
    · rename_i t
      split at hf
      · rename_i x hx
        simp at hf
        obtain ⟨rfl, rfl⟩ := hf
        simp only [List.all_cons, Bool.and_eq_true] at ht
        exact ⟨shape_rel ht.1 hx (frz_rel hm h d _ v hd hv), by simp⟩
      · simp at hf
    · simp at hf
  · simp at hf

mutual
theorem VR.less {m m' : Mem} (hN : ∀ b, m.N b → m'.N b) (hk : ∀ b, m.N b → m'.w.heap[b]? = m.w.heap[b]?) : ∀ (d : DV) (v : Value), nameless d = true → VR m d v → VR m' d v
  | .dat t x, v, _, q => by
    simp only [VR] at q ⊢
    obtain ⟨cs, h1, h2⟩ := q
    exact ⟨cs, RepC.keep hN hk t x cs h1, h2⟩
  | .raw u, v, _, q => by simpa only [VR] using q
  | .fp t x off, v, _, q => by
    simp only [VR] at q ⊢
    obtain ⟨b, o, cs, h1, h2, h3, h4⟩ := q
    exact ⟨b, o, cs, RepC.keep hN hk t x cs h1, hN b h2, h3.keep (hk b h2), h4⟩
  | .e0, v, _, q => by simpa only [VR] using q
  | .agg cs, v, hn, q => by
    simp only [nameless] at hn
    simp only [VR] at q ⊢
    obtain ⟨vs, h1, h2⟩ := q
    exact ⟨vs, h1, VRL.less hN hk cs _ hn h2⟩
  | .ifc t d, v, hn, q => by
    simp only [nameless] at hn
    simp only [VR] at q ⊢
    obtain ⟨u, h1, h2⟩ := q
    exact ⟨u, h1, VR.less hN hk d u hn h2⟩
  | .tup ds, v, hn, q => by
    simp only [nameless] at hn
    simp only [VR] at q ⊢
    obtain ⟨vs, h1, h2⟩ := q
    exact ⟨vs, h1, VRL.less hN hk ds _ hn h2⟩
  | .un, v, hn, q => by simp [nameless] at hn
  | .ptr _ _, v, hn, q => by simp [nameless] at hn
  | .ep _ _ _ _, v, hn, q => by simp [nameless] at hn
  | .sl _, v, hn, q => by simp [nameless] at hn
  | .sw _ _ _ _, v, hn, q => by simp [nameless] at hn
  | .mp _, v, hn, q => by simp [nameless] at hn
  | .clo f a b, v, hn, q => by
    simp only [nameless, Bool.and_eq_true] at hn
    simp only [VR] at q ⊢
    obtain ⟨fs, cs, h1, h2, h3⟩ := q
    exact ⟨fs, cs, h1, VRL.less hN hk a _ hn.1 h2, VRL.less hN hk b _ hn.2 h3⟩
  | .ub, v, hn, q => by simp [nameless] at hn
theorem VRL.less {m m' : Mem} (hN : ∀ b, m.N b → m'.N b) (hk : ∀ b, m.N b → m'.w.heap[b]? = m.w.heap[b]?) : ∀ (ds : List DV) (vs : List Value), namelessL ds = true → VRL m ds vs → VRL m' ds vs
  | [], vs, _, q => by simpa only [VRL] using q
  | d :: r, vs, hn, q => by
    simp only [namelessL, Bool.and_eq_true] at hn
    simp only [VRL] at q ⊢
    obtain ⟨v, vr, h1, h2, h3⟩ := q
    exact ⟨v, vr, h1, VR.less hN hk d v hn.1 h2, VRL.less hN hk r vr hn.2 h3⟩
end

/-- From runs to a contract. -/
theorem contract_of {C : Ctx} (hC : C.OK) {f : FuncId} {fn : Func} {body : Code} (hf : C.P.funcs[f]? = some fn) (hb : fn.body = some body) {T : List Cut} {fuel : Nat} {ts : List (Option Ty)} (hts : ts.all okTy = true) {sp : Spec}
    (h : ∀ (args : List DV) (nx : Nat) (d : DV) (news : List Blk), sp.den args nx d news → ∃ k, big C T (finF C.P ts) fuel k { fn := f, nt := fn.ntmps, env := argEnv 0 args, todo := [.code body] } [] [] = some (d, news)) : Contract C.P f sp := by
  intro args nx d news hden hless base w0 N0 m O' vs hm hargs _ hfree cs
  obtain ⟨k, hk⟩ := h args nx d news hden
  let m1 : Mem := { ρ := fun _ => none, N := m.N, D := fun _ => False, w := m.w }
  have hm1 : MR m.w.heap.size m.w m.N m1 [] :=
    ⟨Below.refl _ _, Nat.le_refl _, hm.lt, fun b hb => .inl hb, fun n v b hv => by simp [m1] at hv, fun n k v u b hv => by simp [m1] at hv, fun n v hv => by simp [m1] at hv, fun n => by simp [m1]⟩
  have ha1 := VRL.less (m := m) (m' := m1) (fun _ h => h) (fun _ _ => rfl) args _ hless hargs
  have hfr : FRel m1 { fn := f, nt := fn.ntmps, env := argEnv 0 args, todo := [.code body] } (Frame.enter C.P f vs .normal) ⟨vs ++ Array.replicate (fn.ntmps - vs.size) undef, []⟩ :=
    ⟨rfl, rfl, rfl, by simp; omega, argEnv_er ha1 _⟩
  obtain ⟨d0, O2, m2, v, frE, e1, e2, e3, e4, e5, e6⟩ := big_good hC k _ _ _ _ hk m.w.heap.size m.w m.N m1 _ _ _ [.code body] [] cs hm1 hfr (.top (.code _ .nil) rfl) rfl
  have hfz : FrzOK m2 (m2.frz m m.w.heap.size) m.w.heap.size := ⟨rfl, fun b hb => by
    rcases e5.nBase b hb with q | q
    · exact .inl q
    · exact .inr ⟨q, e5.lt b hb⟩, fun b h1 h2 => .inr ⟨h1, h2⟩⟩
  obtain ⟨hv, hnews⟩ := finF_rel hts e5 hfz e1 e6
  subst hnews
  have hext : Ext m (m2.frz m m.w.heap.size) := ⟨fun _ _ h => .inl h, fun b h => .inl h, fun _ h => h, fun b hb => e5.below.block b (hm.lt b hb)⟩
  have hsz := e5.bsz
  refine ⟨.returned v, m2.w, frE, ⟨v, m2.frz m m.w.heap.size, rfl, rfl, hext, ?_, hv, fun n h hh => .inl hh, fun k hk => by simp at hk⟩, ?_, ?_, e4⟩
  · have hb2 := hm.bsz
    refine ⟨hm.below.trans (e5.below.mono hb2), Nat.le_trans hb2 hsz, ?_, ?_, ?_, hm.inj, ?_, hm.dead⟩
    · rintro b (h | h)
      · exact Nat.lt_of_lt_of_le (hm.lt b h) hsz
      · exact h.2
    · rintro b (h | h)
      · exact hm.nBase b h
      · exact .inr (Nat.le_trans hb2 h.1)
    · intro n u b hu hbu
      obtain ⟨q1, q2, q3⟩ := hm.nN n u b hu hbu
      refine ⟨?_, q2, Nat.lt_of_lt_of_le q3 hsz⟩
      rintro (h | h)
      · exact q1 h
      · exact absurd q3 (by omega)
    · intro n u hu
      obtain ⟨B, q1, q2⟩ := hm.blk n u hu
      exact ⟨B, q1, BR.keep hext B u (fun b hb => e5.below.block b (hm.nN n u b hu hb).2.2) q2⟩
  · have : Frame.enter C.P f vs .normal = (Frame.enter C.P f vs .normal).at ⟨vs ++ Array.replicate (fn.ntmps - vs.size) undef, []⟩ [.code body] := by
      simp only [Frame.enter, Frame.at, hf, Option.map_some, Option.getD_some, Option.bind_some, hb]
    rw [← this] at e2
    exact e2
  · simpa using e3
end Go.AM
