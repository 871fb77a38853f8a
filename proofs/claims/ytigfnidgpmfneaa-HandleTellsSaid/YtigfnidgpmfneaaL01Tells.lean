/- DERIVED. NO CLAIM IN IT. The law HandleTells, plainly. -/
import Derived.Test.YtigfnidgpmfneaaL01Ref
set_option linter.unusedVariables false
set_option linter.unusedSimpArgs false
namespace Go.AM.L01
open Go.RowKit Go.Proofs
def tx (w b x : Int) (m f : Bool) (K : Option (DV × List Blk)) : Option (DV × List Blk) :=
  bif !(eqH (unpF x) (rU x)) then bo false else bif errF x != rE x then bo false else bif withF x m f != rW x m f then bo false else bif errF x != rWE x m f then bo false else
    bif bareF x != rB x then bo false else bif !sameF x b == rS x b then bo false else bif !sameF x w == rS x w then bo false else K
def flip3 (a : Int) : Int := wr (BitVec.ofInt IntKind.i64.bits a ^^^ BitVec.ofInt IntKind.i64.bits 3).toNat
def th (w : Int) (h : H) (m f : Bool) (K : Option (DV × List Blk)) : Option (DV × List Blk) :=
  bif packF h != rPack h then bo false else bif packE h != packE h then bo false else
    tx w (rPack h) w m f (tx w (rPack h) (rPack h) m f (tx w (rPack h) (flip3 (rPack h)) m f (tx w (rPack h) (pickF w 40) m f K)))
theorem tellsT (k : Nat) (h : H) (w s v b : Int) (m f : Bool) : big C4 [] (finF Try.prog [some .bool]) 3000 (k + 20) (startA Try.prog 3 [.dat hT h, .dat I w, .dat I s, .dat I v, .dat I b, .dat .bool m, .dat .bool f]) [] [] =
    th w h m f (th w (handF s v b) m f (bo true)) := by kernel_rfl

theorem tx_ok {w b x : Int} (hw : In w) (hb : In b) (hx : In x) (m f : Bool) (K : Option (DV × List Blk)) : tx w b x m f K = K := by
  unfold tx
  have e : eqH (unpF x) (unpF x) = true := by rw [eqH_iff, decide_eq_true rfl]
  rw [rU_eq hx, rE_eq hx, rW_eq hx, rWE_eq hx, rB_eq hx, rS_eq hx hb, rS_eq hx hw, e]
  simp only [bne_self_eq_false, cond_false, beq_self_eq_true, Bool.not_true]
theorem good_in {a : Int} (h : good a) : In a := ⟨by have := h.1; omega, by have := h.2; omega⟩
theorem packF_in (h : H) : In (packF h) := by
  rcases okH_dec h with q | q
  · exact good_in (pack_good q)
  · have : packF h = 0 := by unfold packF; rw [packE_bad q]; rfl
    rw [this]; exact ⟨by decide, by decide⟩
theorem flip3_in (a : Int) : In (flip3 a) := wr_range _
theorem th_ok {w : Int} (hw : In w) (h : H) (m f : Bool) (K : Option (DV × List Blk)) : th w h m f K = K := by
  unfold th
  rw [rPack_eq]
  have hp := packF_in h
  have h40 := pickF_range hw (n := 40) (by omega) (by omega)
  rw [tx_ok hw hp hw, tx_ok hw hp hp, tx_ok hw hp (flip3_in _), tx_ok hw hp ⟨by omega, by omega⟩]
  simp only [bne_self_eq_false, cond_false]

theorem tellsPure (h : H) (w s v b : Int) (m f : Bool) (_ : In h.1 ∧ In h.2.1 ∧ True ∧ True) (hw : In w) (_ : In s) (_ : In v) (_ : In b) (_ : True) (_ : True) :
    ∃ k, big C4 [] (finF Try.prog [some .bool]) 3000 k (startA Try.prog 3 (datA [hT, I, I, I, I, .bool, .bool] (h, w, s, v, b, m, f, ()))) [] [] = some (.dat .bool true, []) :=
  ⟨20, (tellsT 0 h w s v b m f).trans (by rw [th_ok hw, th_ok hw]; rfl)⟩
end Go.AM.L01
