/-
  No cell of these rows narrows 'for every input' (looked for: loops, veiled, ifaces, maps, wideKeys, modest, calm, conditions, laid).
  DERIVED. THE GIVEN ROWS OF THIS SEAT. 8 by the template 'for every input the law returns true; each argument reads behind the call as it read before'; 0 by the template 'total and deterministic' (their statements: YtadnhjloeaddnaaTotals.lean).
  GIVEN WITH THE SEED: the statements are not yours to turn. If you find one false, say at which input.
  Laid BY PROGRAM, IN A SANDBOX (cutbox-rows.mjs): the forced cells as the released guide's own fill.sh prints them over the translation 1f3d677efa2a415b… (all of the seat's roots in one cut). By AI agents, Wed Nov 11 2026. No macro, syntax, notation, axiom, sorry.
-/
import Derived.Test.YtadnhjloeaddnaaChecked
import GoSem.Claim
import GoSem.ClaimJoined
import GoSem.ClaimMapViews
import Derived.JoinedTies
import Derived.KernelRfl
namespace Go.Proofs.Ytadnhjloeaddnaa
/- THE CELL 'sum', in the pinned program and in every row, IS THE sha256 OF THE DUMP (.gsa) THAT YtadnhjloeaddnaaProg.lean LOADS. Nothing in Lean hashes anything: it is a label: what it is worth is what the hold of that sum in a sandbox is worth. -/
noncomputable def Try.pinned : Pinned := { name := "ytadnhjloeaddnaa", sum := "1f3d677efa2a415ba5027f07828da489ab9f88db6cd1fa6eb7958c5fe7b37604", checked := Try.checked }
namespace Rows
def none {H : Type} : Left H := { results := [], args := [] }

/-- 'portmanteaulaw34.SplitCuts': WHATEVER THE INPUT: true; the input reads as it did. -/
def splitCutsSpec : ChangeSpec := { name := "splitCuts", fn := fun _ => fun
  | [d1, d2, d3] => { results := [.lit (.bool true)], args := [d1, d2, d3] }
  | _ => none }
def splitCutsRow : OpenClaim := { program := "ytadnhjloeaddnaa", sum := "1f3d677efa2a415ba5027f07828da489ab9f88db6cd1fa6eb7958c5fe7b37604", func := "portmanteau/portmanteaulaw34.SplitCuts", spec := "splitCuts", unfollowed := true, recurses := true, apart := false }
def SplitCutsSaid : Prop := splitCutsRow.holds Try.pinned (OpenSpec.ofChange splitCutsSpec)

/-- ITS FALSE NEIGHBOUR: 'it returns false'. Refute it at one input. -/
def splitCutsWrong : ChangeSpec := { name := "splitCuts", fn := fun _ => fun
  | [d1, d2, d3] => { results := [.lit (.bool false)], args := [d1, d2, d3] }
  | _ => none }
def SplitCutsWrongFalsely : Prop := splitCutsRow.holds Try.pinned (OpenSpec.ofChange splitCutsWrong)

/-- 'portmanteaulaw34.SplitEven': WHATEVER THE INPUT: true; the input reads as it did. -/
def splitEvenSpec : ChangeSpec := { name := "splitEven", fn := fun _ => fun
  | [d1, d2] => { results := [.lit (.bool true)], args := [d1, d2] }
  | _ => none }
def splitEvenRow : OpenClaim := { program := "ytadnhjloeaddnaa", sum := "1f3d677efa2a415ba5027f07828da489ab9f88db6cd1fa6eb7958c5fe7b37604", func := "portmanteau/portmanteaulaw34.SplitEven", spec := "splitEven", unfollowed := true, recurses := true, apart := false }
def SplitEvenSaid : Prop := splitEvenRow.holds Try.pinned (OpenSpec.ofChange splitEvenSpec)

/-- ITS FALSE NEIGHBOUR: 'it returns false'. Refute it at one input. -/
def splitEvenWrong : ChangeSpec := { name := "splitEven", fn := fun _ => fun
  | [d1, d2] => { results := [.lit (.bool false)], args := [d1, d2] }
  | _ => none }
def SplitEvenWrongFalsely : Prop := splitEvenRow.holds Try.pinned (OpenSpec.ofChange splitEvenWrong)

/-- 'portmanteaulaw34.SplitMay': WHATEVER THE INPUT: true; the input reads as it did. -/
def splitMaySpec : ChangeSpec := { name := "splitMay", fn := fun _ => fun
  | [d1, d2, d3] => { results := [.lit (.bool true)], args := [d1, d2, d3] }
  | _ => none }
def splitMayRow : OpenClaim := { program := "ytadnhjloeaddnaa", sum := "1f3d677efa2a415ba5027f07828da489ab9f88db6cd1fa6eb7958c5fe7b37604", func := "portmanteau/portmanteaulaw34.SplitMay", spec := "splitMay", unfollowed := true, recurses := true, apart := false }
def SplitMaySaid : Prop := splitMayRow.holds Try.pinned (OpenSpec.ofChange splitMaySpec)

/-- ITS FALSE NEIGHBOUR: 'it returns false'. Refute it at one input. -/
def splitMayWrong : ChangeSpec := { name := "splitMay", fn := fun _ => fun
  | [d1, d2, d3] => { results := [.lit (.bool false)], args := [d1, d2, d3] }
  | _ => none }
def SplitMayWrongFalsely : Prop := splitMayRow.holds Try.pinned (OpenSpec.ofChange splitMayWrong)

/-- 'portmanteaulaw34.SplitWorth': WHATEVER THE INPUT: true; the input reads as it did. -/
def splitWorthSpec : ChangeSpec := { name := "splitWorth", fn := fun _ => fun
  | [d1, d2] => { results := [.lit (.bool true)], args := [d1, d2] }
  | _ => none }
def splitWorthRow : OpenClaim := { program := "ytadnhjloeaddnaa", sum := "1f3d677efa2a415ba5027f07828da489ab9f88db6cd1fa6eb7958c5fe7b37604", func := "portmanteau/portmanteaulaw34.SplitWorth", spec := "splitWorth", unfollowed := true, recurses := true, apart := false }
def SplitWorthSaid : Prop := splitWorthRow.holds Try.pinned (OpenSpec.ofChange splitWorthSpec)

/-- ITS FALSE NEIGHBOUR: 'it returns false'. Refute it at one input. -/
def splitWorthWrong : ChangeSpec := { name := "splitWorth", fn := fun _ => fun
  | [d1, d2] => { results := [.lit (.bool false)], args := [d1, d2] }
  | _ => none }
def SplitWorthWrongFalsely : Prop := splitWorthRow.holds Try.pinned (OpenSpec.ofChange splitWorthWrong)

/-- 'portmanteaulaw34.SplitPart': WHATEVER THE INPUT: true; the input reads as it did. -/
def splitPartSpec : ChangeSpec := { name := "splitPart", fn := fun _ => fun
  | [d] => { results := [.lit (.bool true)], args := [d] }
  | _ => none }
def splitPartRow : OpenClaim := { program := "ytadnhjloeaddnaa", sum := "1f3d677efa2a415ba5027f07828da489ab9f88db6cd1fa6eb7958c5fe7b37604", func := "portmanteau/portmanteaulaw34.SplitPart", spec := "splitPart", unfollowed := true, recurses := true, apart := false }
def SplitPartSaid : Prop := splitPartRow.holds Try.pinned (OpenSpec.ofChange splitPartSpec)

/-- ITS FALSE NEIGHBOUR: 'it returns false'. Refute it at one input. -/
def splitPartWrong : ChangeSpec := { name := "splitPart", fn := fun _ => fun
  | [d] => { results := [.lit (.bool false)], args := [d] }
  | _ => none }
def SplitPartWrongFalsely : Prop := splitPartRow.holds Try.pinned (OpenSpec.ofChange splitPartWrong)

/-- 'portmanteaulaw34.SplitParts': WHATEVER THE INPUT: true; the input reads as it did. -/
def splitPartsSpec : ChangeSpec := { name := "splitParts", fn := fun _ => fun
  | [d1, d2, d3] => { results := [.lit (.bool true)], args := [d1, d2, d3] }
  | _ => none }
def splitPartsRow : OpenClaim := { program := "ytadnhjloeaddnaa", sum := "1f3d677efa2a415ba5027f07828da489ab9f88db6cd1fa6eb7958c5fe7b37604", func := "portmanteau/portmanteaulaw34.SplitParts", spec := "splitParts", unfollowed := true, recurses := true, apart := false }
def SplitPartsSaid : Prop := splitPartsRow.holds Try.pinned (OpenSpec.ofChange splitPartsSpec)

/-- ITS FALSE NEIGHBOUR: 'it returns false'. Refute it at one input. -/
def splitPartsWrong : ChangeSpec := { name := "splitParts", fn := fun _ => fun
  | [d1, d2, d3] => { results := [.lit (.bool false)], args := [d1, d2, d3] }
  | _ => none }
def SplitPartsWrongFalsely : Prop := splitPartsRow.holds Try.pinned (OpenSpec.ofChange splitPartsWrong)

/-- 'portmanteaulaw34.SplitBounds': WHATEVER THE INPUT: true; the input reads as it did. -/
def splitBoundsSpec : ChangeSpec := { name := "splitBounds", fn := fun _ => fun
  | [d1, d2, d3] => { results := [.lit (.bool true)], args := [d1, d2, d3] }
  | _ => none }
def splitBoundsRow : OpenClaim := { program := "ytadnhjloeaddnaa", sum := "1f3d677efa2a415ba5027f07828da489ab9f88db6cd1fa6eb7958c5fe7b37604", func := "portmanteau/portmanteaulaw34.SplitBounds", spec := "splitBounds", unfollowed := true, recurses := true, apart := false }
def SplitBoundsSaid : Prop := splitBoundsRow.holds Try.pinned (OpenSpec.ofChange splitBoundsSpec)

/-- ITS FALSE NEIGHBOUR: 'it returns false'. Refute it at one input. -/
def splitBoundsWrong : ChangeSpec := { name := "splitBounds", fn := fun _ => fun
  | [d1, d2, d3] => { results := [.lit (.bool false)], args := [d1, d2, d3] }
  | _ => none }
def SplitBoundsWrongFalsely : Prop := splitBoundsRow.holds Try.pinned (OpenSpec.ofChange splitBoundsWrong)

/-- 'portmanteaulaw34.SplitHolds': WHATEVER THE INPUT: true; the input reads as it did. -/
def splitHoldsSpec : ChangeSpec := { name := "splitHolds", fn := fun _ => fun
  | [d1, d2, d3, d4] => { results := [.lit (.bool true)], args := [d1, d2, d3, d4] }
  | _ => none }
def splitHoldsRow : OpenClaim := { program := "ytadnhjloeaddnaa", sum := "1f3d677efa2a415ba5027f07828da489ab9f88db6cd1fa6eb7958c5fe7b37604", func := "portmanteau/portmanteaulaw34.SplitHolds", spec := "splitHolds", unfollowed := true, recurses := true, apart := false }
def SplitHoldsSaid : Prop := splitHoldsRow.holds Try.pinned (OpenSpec.ofChange splitHoldsSpec)

/-- ITS FALSE NEIGHBOUR: 'it returns false'. Refute it at one input. -/
def splitHoldsWrong : ChangeSpec := { name := "splitHolds", fn := fun _ => fun
  | [d1, d2, d3, d4] => { results := [.lit (.bool false)], args := [d1, d2, d3, d4] }
  | _ => none }
def SplitHoldsWrongFalsely : Prop := splitHoldsRow.holds Try.pinned (OpenSpec.ofChange splitHoldsWrong)

/- THE SECOND FORM. 'bulk': how many values and letters a reading holds, each counted each time it is reached (what is shared counts as often as it is met; a slice's spare places count too). A statement '..UptoSaid' is the law's where the arguments, and the package variables that the reading takes, are together of bulk at most 1048576: NARROWER than '..Said'. Prove '..Said' where nothing that the law and all that it calls make is longer than what came in: it says more and counts as full. Else prove '..UptoSaid'. A law counts once. -/
mutual
def uptoBulk {H : Type} : DataW H → Nat
  | .lit (.string bytes) => bytes.length + 1
  | .lit _ => 1
  | .nil => 1
  | .ptr d => uptoBulk d + 1
  | .slice elems spare => uptoBulkAll elems + uptoBulkAll spare + 1
  | .agg parts => uptoBulkAll parts + 1
  | .iface _ d => uptoBulk d + 1
  | .map entries => uptoBulkEntries entries + 1
  | .held _ => 1
def uptoBulkAll {H : Type} : List (DataW H) → Nat
  | [] => 0
  | d :: r => uptoBulk d + uptoBulkAll r
def uptoBulkEntries {H : Type} : List (Lit × DataW H) → Nat
  | [] => 0
  | x :: r => uptoBulkEntry x + uptoBulkEntries r
def uptoBulkEntry {H : Type} : Lit × DataW H → Nat
  | (.string bytes, d) => bytes.length + uptoBulk d + 1
  | (_, d) => uptoBulk d + 1
 end
def uptoSmall : (H : Type) → List (DataW H) → Bool := fun _ ds => decide (uptoBulkAll ds ≤ 1048576)
def OpenSpec.upto (s : _root_.Go.ChangeSpec) : _root_.Go.OpenSpec := { _root_.Go.OpenSpec.ofChange s with cond := some uptoSmall }

/-- 'portmanteaulaw34.SplitCuts', WHERE WHAT IT READS IS OF BULK AT MOST 1048576: true; the input reads as it did. -/
def splitCutsUptoRow : OpenClaim := { program := "ytadnhjloeaddnaa", sum := "1f3d677efa2a415ba5027f07828da489ab9f88db6cd1fa6eb7958c5fe7b37604", func := "portmanteau/portmanteaulaw34.SplitCuts", spec := "splitCuts", unfollowed := true, recurses := true, apart := false, narrowed := true }
def SplitCutsUptoSaid : Prop := splitCutsUptoRow.holds Try.pinned (OpenSpec.upto splitCutsSpec)

/-- 'portmanteaulaw34.SplitEven', WHERE WHAT IT READS IS OF BULK AT MOST 1048576: true; the input reads as it did. -/
def splitEvenUptoRow : OpenClaim := { program := "ytadnhjloeaddnaa", sum := "1f3d677efa2a415ba5027f07828da489ab9f88db6cd1fa6eb7958c5fe7b37604", func := "portmanteau/portmanteaulaw34.SplitEven", spec := "splitEven", unfollowed := true, recurses := true, apart := false, narrowed := true }
def SplitEvenUptoSaid : Prop := splitEvenUptoRow.holds Try.pinned (OpenSpec.upto splitEvenSpec)

/-- 'portmanteaulaw34.SplitMay', WHERE WHAT IT READS IS OF BULK AT MOST 1048576: true; the input reads as it did. -/
def splitMayUptoRow : OpenClaim := { program := "ytadnhjloeaddnaa", sum := "1f3d677efa2a415ba5027f07828da489ab9f88db6cd1fa6eb7958c5fe7b37604", func := "portmanteau/portmanteaulaw34.SplitMay", spec := "splitMay", unfollowed := true, recurses := true, apart := false, narrowed := true }
def SplitMayUptoSaid : Prop := splitMayUptoRow.holds Try.pinned (OpenSpec.upto splitMaySpec)

/-- 'portmanteaulaw34.SplitWorth', WHERE WHAT IT READS IS OF BULK AT MOST 1048576: true; the input reads as it did. -/
def splitWorthUptoRow : OpenClaim := { program := "ytadnhjloeaddnaa", sum := "1f3d677efa2a415ba5027f07828da489ab9f88db6cd1fa6eb7958c5fe7b37604", func := "portmanteau/portmanteaulaw34.SplitWorth", spec := "splitWorth", unfollowed := true, recurses := true, apart := false, narrowed := true }
def SplitWorthUptoSaid : Prop := splitWorthUptoRow.holds Try.pinned (OpenSpec.upto splitWorthSpec)

/-- 'portmanteaulaw34.SplitPart', WHERE WHAT IT READS IS OF BULK AT MOST 1048576: true; the input reads as it did. -/
def splitPartUptoRow : OpenClaim := { program := "ytadnhjloeaddnaa", sum := "1f3d677efa2a415ba5027f07828da489ab9f88db6cd1fa6eb7958c5fe7b37604", func := "portmanteau/portmanteaulaw34.SplitPart", spec := "splitPart", unfollowed := true, recurses := true, apart := false, narrowed := true }
def SplitPartUptoSaid : Prop := splitPartUptoRow.holds Try.pinned (OpenSpec.upto splitPartSpec)

/-- 'portmanteaulaw34.SplitParts', WHERE WHAT IT READS IS OF BULK AT MOST 1048576: true; the input reads as it did. -/
def splitPartsUptoRow : OpenClaim := { program := "ytadnhjloeaddnaa", sum := "1f3d677efa2a415ba5027f07828da489ab9f88db6cd1fa6eb7958c5fe7b37604", func := "portmanteau/portmanteaulaw34.SplitParts", spec := "splitParts", unfollowed := true, recurses := true, apart := false, narrowed := true }
def SplitPartsUptoSaid : Prop := splitPartsUptoRow.holds Try.pinned (OpenSpec.upto splitPartsSpec)

/-- 'portmanteaulaw34.SplitBounds', WHERE WHAT IT READS IS OF BULK AT MOST 1048576: true; the input reads as it did. -/
def splitBoundsUptoRow : OpenClaim := { program := "ytadnhjloeaddnaa", sum := "1f3d677efa2a415ba5027f07828da489ab9f88db6cd1fa6eb7958c5fe7b37604", func := "portmanteau/portmanteaulaw34.SplitBounds", spec := "splitBounds", unfollowed := true, recurses := true, apart := false, narrowed := true }
def SplitBoundsUptoSaid : Prop := splitBoundsUptoRow.holds Try.pinned (OpenSpec.upto splitBoundsSpec)

/-- 'portmanteaulaw34.SplitHolds', WHERE WHAT IT READS IS OF BULK AT MOST 1048576: true; the input reads as it did. -/
def splitHoldsUptoRow : OpenClaim := { program := "ytadnhjloeaddnaa", sum := "1f3d677efa2a415ba5027f07828da489ab9f88db6cd1fa6eb7958c5fe7b37604", func := "portmanteau/portmanteaulaw34.SplitHolds", spec := "splitHolds", unfollowed := true, recurses := true, apart := false, narrowed := true }
def SplitHoldsUptoSaid : Prop := splitHoldsUptoRow.holds Try.pinned (OpenSpec.upto splitHoldsSpec)

end Rows
end Go.Proofs.Ytadnhjloeaddnaa
