/-
  No cell of these rows narrows 'for every input' (looked for: loops, veiled, ifaces, maps, wideKeys, modest, calm, conditions, laid).
  DERIVED. THE GIVEN ROWS OF THIS SEAT. 5 by the template 'for every input the law returns true; each argument reads behind the call as it read before'; 0 by the template 'total and deterministic' (their statements: YtigfnidgpmfneaaTotals.lean).
  GIVEN WITH THE SEED: the statements are not yours to turn. If you find one false, say at which input.
  Laid BY PROGRAM, IN A SANDBOX (cutbox-rows.mjs): the forced cells as the released guide's own fill.sh prints them over the translation ff9c0c88f9c019f9… (all of the seat's roots in one cut). By AI agents, Wed Nov 11 2026. No macro, syntax, notation, axiom, sorry.
-/
import Derived.Test.YtigfnidgpmfneaaChecked
import GoSem.Claim
import GoSem.ClaimJoined
import GoSem.ClaimMapViews
import Derived.JoinedTies
import Derived.KernelRfl
namespace Go.Proofs.Ytigfnidgpmfneaa
/- THE CELL 'sum', in the pinned program and in every row, IS THE sha256 OF THE DUMP (.gsa) THAT YtigfnidgpmfneaaProg.lean LOADS. Nothing in Lean hashes anything: it is a label: what it is worth is what the hold of that sum in a sandbox is worth. -/
noncomputable def Try.pinned : Pinned := { name := "ytigfnidgpmfneaa", sum := "ff9c0c88f9c019f9ffaab8cde4f6546f87774279073bf6445fc721b1807c5999", checked := Try.checked }
namespace Rows
def none {H : Type} : Left H := { results := [], args := [] }

/-- 'bellwetherlaw01.HandleTells': WHATEVER THE INPUT: true; the input reads as it did. -/
def handleTellsSpec : ChangeSpec := { name := "handleTells", fn := fun _ => fun
  | [d1, d2, d3, d4, d5, d6, d7] => { results := [.lit (.bool true)], args := [d1, d2, d3, d4, d5, d6, d7] }
  | _ => none }
def handleTellsRow : OpenClaim := { program := "ytigfnidgpmfneaa", sum := "ff9c0c88f9c019f9ffaab8cde4f6546f87774279073bf6445fc721b1807c5999", func := "bellwether/bellwetherlaw01.HandleTells", spec := "handleTells", inPlace := ["internal/reflectlite.TypeOf"], unfollowed := true, recurses := true, apart := false }
def HandleTellsSaid : Prop := handleTellsRow.holds Try.pinned (OpenSpec.ofChange handleTellsSpec)

/-- ITS FALSE NEIGHBOUR: 'it returns false'. Refute it at one input. -/
def handleTellsWrong : ChangeSpec := { name := "handleTells", fn := fun _ => fun
  | [d1, d2, d3, d4, d5, d6, d7] => { results := [.lit (.bool false)], args := [d1, d2, d3, d4, d5, d6, d7] }
  | _ => none }
def HandleTellsWrongFalsely : Prop := handleTellsRow.holds Try.pinned (OpenSpec.ofChange handleTellsWrong)

/-- 'bellwetherlaw01.HandleBack': WHATEVER THE INPUT: true; the input reads as it did. -/
def handleBackSpec : ChangeSpec := { name := "handleBack", fn := fun _ => fun
  | [d1, d2, d3] => { results := [.lit (.bool true)], args := [d1, d2, d3] }
  | _ => none }
def handleBackRow : OpenClaim := { program := "ytigfnidgpmfneaa", sum := "ff9c0c88f9c019f9ffaab8cde4f6546f87774279073bf6445fc721b1807c5999", func := "bellwether/bellwetherlaw01.HandleBack", spec := "handleBack", inPlace := ["internal/reflectlite.TypeOf"], unfollowed := true, recurses := true, apart := false }
def HandleBackSaid : Prop := handleBackRow.holds Try.pinned (OpenSpec.ofChange handleBackSpec)

/-- ITS FALSE NEIGHBOUR: 'it returns false'. Refute it at one input. -/
def handleBackWrong : ChangeSpec := { name := "handleBack", fn := fun _ => fun
  | [d1, d2, d3] => { results := [.lit (.bool false)], args := [d1, d2, d3] }
  | _ => none }
def HandleBackWrongFalsely : Prop := handleBackRow.holds Try.pinned (OpenSpec.ofChange handleBackWrong)

/-- 'bellwetherlaw01.HandleBits': WHATEVER THE INPUT: true; the input reads as it did. -/
def handleBitsSpec : ChangeSpec := { name := "handleBits", fn := fun _ => fun
  | [d1, d2, d3, d4] => { results := [.lit (.bool true)], args := [d1, d2, d3, d4] }
  | _ => none }
def handleBitsRow : OpenClaim := { program := "ytigfnidgpmfneaa", sum := "ff9c0c88f9c019f9ffaab8cde4f6546f87774279073bf6445fc721b1807c5999", func := "bellwether/bellwetherlaw01.HandleBits", spec := "handleBits", inPlace := ["internal/reflectlite.TypeOf"], unfollowed := true, recurses := true, apart := false }
def HandleBitsSaid : Prop := handleBitsRow.holds Try.pinned (OpenSpec.ofChange handleBitsSpec)

/-- ITS FALSE NEIGHBOUR: 'it returns false'. Refute it at one input. -/
def handleBitsWrong : ChangeSpec := { name := "handleBits", fn := fun _ => fun
  | [d1, d2, d3, d4] => { results := [.lit (.bool false)], args := [d1, d2, d3, d4] }
  | _ => none }
def HandleBitsWrongFalsely : Prop := handleBitsRow.holds Try.pinned (OpenSpec.ofChange handleBitsWrong)

/-- 'bellwetherlaw01.HandleGrows': WHATEVER THE INPUT: true; the input reads as it did. -/
def handleGrowsSpec : ChangeSpec := { name := "handleGrows", fn := fun _ => fun
  | [d1, d2, d3] => { results := [.lit (.bool true)], args := [d1, d2, d3] }
  | _ => none }
def handleGrowsRow : OpenClaim := { program := "ytigfnidgpmfneaa", sum := "ff9c0c88f9c019f9ffaab8cde4f6546f87774279073bf6445fc721b1807c5999", func := "bellwether/bellwetherlaw01.HandleGrows", spec := "handleGrows", inPlace := ["internal/reflectlite.TypeOf"], unfollowed := true, recurses := true, apart := false }
def HandleGrowsSaid : Prop := handleGrowsRow.holds Try.pinned (OpenSpec.ofChange handleGrowsSpec)

/-- ITS FALSE NEIGHBOUR: 'it returns false'. Refute it at one input. -/
def handleGrowsWrong : ChangeSpec := { name := "handleGrows", fn := fun _ => fun
  | [d1, d2, d3] => { results := [.lit (.bool false)], args := [d1, d2, d3] }
  | _ => none }
def HandleGrowsWrongFalsely : Prop := handleGrowsRow.holds Try.pinned (OpenSpec.ofChange handleGrowsWrong)

/-- 'bellwetherlaw01.HandleNone': WHATEVER THE INPUT: true; the input reads as it did. -/
def handleNoneSpec : ChangeSpec := { name := "handleNone", fn := fun _ => fun
  | [d1, d2] => { results := [.lit (.bool true)], args := [d1, d2] }
  | _ => none }
def handleNoneRow : OpenClaim := { program := "ytigfnidgpmfneaa", sum := "ff9c0c88f9c019f9ffaab8cde4f6546f87774279073bf6445fc721b1807c5999", func := "bellwether/bellwetherlaw01.HandleNone", spec := "handleNone", inPlace := ["internal/reflectlite.TypeOf"], unfollowed := true, recurses := true, apart := false }
def HandleNoneSaid : Prop := handleNoneRow.holds Try.pinned (OpenSpec.ofChange handleNoneSpec)

/-- ITS FALSE NEIGHBOUR: 'it returns false'. Refute it at one input. -/
def handleNoneWrong : ChangeSpec := { name := "handleNone", fn := fun _ => fun
  | [d1, d2] => { results := [.lit (.bool false)], args := [d1, d2] }
  | _ => none }
def HandleNoneWrongFalsely : Prop := handleNoneRow.holds Try.pinned (OpenSpec.ofChange handleNoneWrong)

/- THE SECOND FORM. 'bulk': how many values and letters a reading holds, each counted each time it is reached (what is shared counts as often as it is met; a slice's spare places count too). A statement '..UptoSaid' is the law's where the arguments, and the package variables that the reading takes, are together of bulk at most 1048576: NARROWER than '..Said'. Prove '..Said' where nothing that the law and all that it calls make is longer than what came in: it says more and counts as full. Else prove '..UptoSaid'. A law counts once. -/
mutual
def uptoBulk {H : Type} : DataW H → Nat
  | .lit (.string bytes) => bytes.length + 1
  | .lit _ => 1
  | .nil => 1
  | .ptr d => uptoBulk d + 1
  | .slice elems spare => uptoBulkAll elems + uptoBulkAll spare + 1
  | .agg parts => uptoBulkAll parts + 1
  | .iface _ d => uptoBulk d + 1
  | .map entries => uptoBulkEntries entries + 1
  | .held _ => 1
def uptoBulkAll {H : Type} : List (DataW H) → Nat
  | [] => 0
  | d :: r => uptoBulk d + uptoBulkAll r
def uptoBulkEntries {H : Type} : List (Lit × DataW H) → Nat
  | [] => 0
  | x :: r => uptoBulkEntry x + uptoBulkEntries r
def uptoBulkEntry {H : Type} : Lit × DataW H → Nat
  | (.string bytes, d) => bytes.length + uptoBulk d + 1
  | (_, d) => uptoBulk d + 1
 end
def uptoSmall : (H : Type) → List (DataW H) → Bool := fun _ ds => decide (uptoBulkAll ds ≤ 1048576)
def OpenSpec.upto (s : _root_.Go.ChangeSpec) : _root_.Go.OpenSpec := { _root_.Go.OpenSpec.ofChange s with cond := some uptoSmall }

/-- 'bellwetherlaw01.HandleTells', WHERE WHAT IT READS IS OF BULK AT MOST 1048576: true; the input reads as it did. -/
def handleTellsUptoRow : OpenClaim := { program := "ytigfnidgpmfneaa", sum := "ff9c0c88f9c019f9ffaab8cde4f6546f87774279073bf6445fc721b1807c5999", func := "bellwether/bellwetherlaw01.HandleTells", spec := "handleTells", inPlace := ["internal/reflectlite.TypeOf"], unfollowed := true, recurses := true, apart := false, narrowed := true }
def HandleTellsUptoSaid : Prop := handleTellsUptoRow.holds Try.pinned (OpenSpec.upto handleTellsSpec)

/-- 'bellwetherlaw01.HandleBack', WHERE WHAT IT READS IS OF BULK AT MOST 1048576: true; the input reads as it did. -/
def handleBackUptoRow : OpenClaim := { program := "ytigfnidgpmfneaa", sum := "ff9c0c88f9c019f9ffaab8cde4f6546f87774279073bf6445fc721b1807c5999", func := "bellwether/bellwetherlaw01.HandleBack", spec := "handleBack", inPlace := ["internal/reflectlite.TypeOf"], unfollowed := true, recurses := true, apart := false, narrowed := true }
def HandleBackUptoSaid : Prop := handleBackUptoRow.holds Try.pinned (OpenSpec.upto handleBackSpec)

/-- 'bellwetherlaw01.HandleBits', WHERE WHAT IT READS IS OF BULK AT MOST 1048576: true; the input reads as it did. -/
def handleBitsUptoRow : OpenClaim := { program := "ytigfnidgpmfneaa", sum := "ff9c0c88f9c019f9ffaab8cde4f6546f87774279073bf6445fc721b1807c5999", func := "bellwether/bellwetherlaw01.HandleBits", spec := "handleBits", inPlace := ["internal/reflectlite.TypeOf"], unfollowed := true, recurses := true, apart := false, narrowed := true }
def HandleBitsUptoSaid : Prop := handleBitsUptoRow.holds Try.pinned (OpenSpec.upto handleBitsSpec)

/-- 'bellwetherlaw01.HandleGrows', WHERE WHAT IT READS IS OF BULK AT MOST 1048576: true; the input reads as it did. -/
def handleGrowsUptoRow : OpenClaim := { program := "ytigfnidgpmfneaa", sum := "ff9c0c88f9c019f9ffaab8cde4f6546f87774279073bf6445fc721b1807c5999", func := "bellwether/bellwetherlaw01.HandleGrows", spec := "handleGrows", inPlace := ["internal/reflectlite.TypeOf"], unfollowed := true, recurses := true, apart := false, narrowed := true }
def HandleGrowsUptoSaid : Prop := handleGrowsUptoRow.holds Try.pinned (OpenSpec.upto handleGrowsSpec)

/-- 'bellwetherlaw01.HandleNone', WHERE WHAT IT READS IS OF BULK AT MOST 1048576: true; the input reads as it did. -/
def handleNoneUptoRow : OpenClaim := { program := "ytigfnidgpmfneaa", sum := "ff9c0c88f9c019f9ffaab8cde4f6546f87774279073bf6445fc721b1807c5999", func := "bellwether/bellwetherlaw01.HandleNone", spec := "handleNone", inPlace := ["internal/reflectlite.TypeOf"], unfollowed := true, recurses := true, apart := false, narrowed := true }
def HandleNoneUptoSaid : Prop := handleNoneUptoRow.holds Try.pinned (OpenSpec.upto handleNoneSpec)

end Rows
end Go.Proofs.Ytigfnidgpmfneaa
