/-
  No cell of these rows narrows 'for every input' (looked for: loops, veiled, ifaces, maps, wideKeys, modest, calm, conditions, laid).
  DERIVED. THE GIVEN ROWS OF THIS SEAT. 8 by the template 'for every input the law returns true; each argument reads behind the call as it read before'; 0 by the template 'total and deterministic' (their statements: YtaoiaiddamnbiaaTotals.lean).
  GIVEN WITH THE SEED: the statements are not yours to turn. If you find one false, say at which input.
  Laid BY PROGRAM, IN A SANDBOX (cutbox-rows.mjs): the forced cells as the released guide's own fill.sh prints them over the translation 597a47066f761521… (all of the seat's roots in one cut). By AI agents, Wed Nov 11 2026. No macro, syntax, notation, axiom, sorry.
-/
import Derived.Test.YtaoiaiddamnbiaaChecked
import GoSem.Claim
import GoSem.ClaimJoined
import GoSem.ClaimMapViews
import Derived.JoinedTies
import Derived.KernelRfl
namespace Go.Proofs.Ytaoiaiddamnbiaa
/- THE CELL 'sum', in the pinned program and in every row, IS THE sha256 OF THE DUMP (.gsa) THAT YtaoiaiddamnbiaaProg.lean LOADS. Nothing in Lean hashes anything: it is a label: what it is worth is what the hold of that sum in a sandbox is worth. -/
noncomputable def Try.pinned : Pinned := { name := "ytaoiaiddamnbiaa", sum := "597a47066f76152153c3ceed954e0b685827e01b2aa0793979d640531c19355d", checked := Try.checked }
namespace Rows
def none {H : Type} : Left H := { results := [], args := [] }

/-- 'portmanteaulaw28.MatchLens': WHATEVER THE INPUT: true; the input reads as it did. -/
def matchLensSpec : ChangeSpec := { name := "matchLens", fn := fun _ => fun
  | [d1, d2, d3, d4, d5] => { results := [.lit (.bool true)], args := [d1, d2, d3, d4, d5] }
  | _ => none }
def matchLensRow : OpenClaim := { program := "ytaoiaiddamnbiaa", sum := "597a47066f76152153c3ceed954e0b685827e01b2aa0793979d640531c19355d", func := "portmanteau/portmanteaulaw28.MatchLens", spec := "matchLens", unfollowed := true, recurses := true, apart := false }
def MatchLensSaid : Prop := matchLensRow.holds Try.pinned (OpenSpec.ofChange matchLensSpec)

/-- ITS FALSE NEIGHBOUR: 'it returns false'. Refute it at one input. -/
def matchLensWrong : ChangeSpec := { name := "matchLens", fn := fun _ => fun
  | [d1, d2, d3, d4, d5] => { results := [.lit (.bool false)], args := [d1, d2, d3, d4, d5] }
  | _ => none }
def MatchLensWrongFalsely : Prop := matchLensRow.holds Try.pinned (OpenSpec.ofChange matchLensWrong)

/-- 'portmanteaulaw28.MatchBest': WHATEVER THE INPUT: true; the input reads as it did. -/
def matchBestSpec : ChangeSpec := { name := "matchBest", fn := fun _ => fun
  | [d1, d2, d3, d4] => { results := [.lit (.bool true)], args := [d1, d2, d3, d4] }
  | _ => none }
def matchBestRow : OpenClaim := { program := "ytaoiaiddamnbiaa", sum := "597a47066f76152153c3ceed954e0b685827e01b2aa0793979d640531c19355d", func := "portmanteau/portmanteaulaw28.MatchBest", spec := "matchBest", unfollowed := true, recurses := true, apart := false }
def MatchBestSaid : Prop := matchBestRow.holds Try.pinned (OpenSpec.ofChange matchBestSpec)

/-- ITS FALSE NEIGHBOUR: 'it returns false'. Refute it at one input. -/
def matchBestWrong : ChangeSpec := { name := "matchBest", fn := fun _ => fun
  | [d1, d2, d3, d4] => { results := [.lit (.bool false)], args := [d1, d2, d3, d4] }
  | _ => none }
def MatchBestWrongFalsely : Prop := matchBestRow.holds Try.pinned (OpenSpec.ofChange matchBestWrong)

/-- 'portmanteaulaw28.MatchPrice': WHATEVER THE INPUT: true; the input reads as it did. -/
def matchPriceSpec : ChangeSpec := { name := "matchPrice", fn := fun _ => fun
  | [d1, d2, d3] => { results := [.lit (.bool true)], args := [d1, d2, d3] }
  | _ => none }
def matchPriceRow : OpenClaim := { program := "ytaoiaiddamnbiaa", sum := "597a47066f76152153c3ceed954e0b685827e01b2aa0793979d640531c19355d", func := "portmanteau/portmanteaulaw28.MatchPrice", spec := "matchPrice", unfollowed := true, recurses := true, apart := false }
def MatchPriceSaid : Prop := matchPriceRow.holds Try.pinned (OpenSpec.ofChange matchPriceSpec)

/-- ITS FALSE NEIGHBOUR: 'it returns false'. Refute it at one input. -/
def matchPriceWrong : ChangeSpec := { name := "matchPrice", fn := fun _ => fun
  | [d1, d2, d3] => { results := [.lit (.bool false)], args := [d1, d2, d3] }
  | _ => none }
def MatchPriceWrongFalsely : Prop := matchPriceRow.holds Try.pinned (OpenSpec.ofChange matchPriceWrong)

/-- 'portmanteaulaw28.MatchLonger': WHATEVER THE INPUT: true; the input reads as it did. -/
def matchLongerSpec : ChangeSpec := { name := "matchLonger", fn := fun _ => fun
  | [d1, d2, d3, d4, d5] => { results := [.lit (.bool true)], args := [d1, d2, d3, d4, d5] }
  | _ => none }
def matchLongerRow : OpenClaim := { program := "ytaoiaiddamnbiaa", sum := "597a47066f76152153c3ceed954e0b685827e01b2aa0793979d640531c19355d", func := "portmanteau/portmanteaulaw28.MatchLonger", spec := "matchLonger", unfollowed := true, recurses := true, apart := false }
def MatchLongerSaid : Prop := matchLongerRow.holds Try.pinned (OpenSpec.ofChange matchLongerSpec)

/-- ITS FALSE NEIGHBOUR: 'it returns false'. Refute it at one input. -/
def matchLongerWrong : ChangeSpec := { name := "matchLonger", fn := fun _ => fun
  | [d1, d2, d3, d4, d5] => { results := [.lit (.bool false)], args := [d1, d2, d3, d4, d5] }
  | _ => none }
def MatchLongerWrongFalsely : Prop := matchLongerRow.holds Try.pinned (OpenSpec.ofChange matchLongerWrong)

/-- 'portmanteaulaw28.MatchIs': WHATEVER THE INPUT: true; the input reads as it did. -/
def matchIsSpec : ChangeSpec := { name := "matchIs", fn := fun _ => fun
  | [d1, d2, d3] => { results := [.lit (.bool true)], args := [d1, d2, d3] }
  | _ => none }
def matchIsRow : OpenClaim := { program := "ytaoiaiddamnbiaa", sum := "597a47066f76152153c3ceed954e0b685827e01b2aa0793979d640531c19355d", func := "portmanteau/portmanteaulaw28.MatchIs", spec := "matchIs", unfollowed := true, recurses := true, apart := false }
def MatchIsSaid : Prop := matchIsRow.holds Try.pinned (OpenSpec.ofChange matchIsSpec)

/-- ITS FALSE NEIGHBOUR: 'it returns false'. Refute it at one input. -/
def matchIsWrong : ChangeSpec := { name := "matchIs", fn := fun _ => fun
  | [d1, d2, d3] => { results := [.lit (.bool false)], args := [d1, d2, d3] }
  | _ => none }
def MatchIsWrongFalsely : Prop := matchIsRow.holds Try.pinned (OpenSpec.ofChange matchIsWrong)

/-- 'portmanteaulaw28.MatchSaves': WHATEVER THE INPUT: true; the input reads as it did. -/
def matchSavesSpec : ChangeSpec := { name := "matchSaves", fn := fun _ => fun
  | [d1, d2, d3, d4] => { results := [.lit (.bool true)], args := [d1, d2, d3, d4] }
  | _ => none }
def matchSavesRow : OpenClaim := { program := "ytaoiaiddamnbiaa", sum := "597a47066f76152153c3ceed954e0b685827e01b2aa0793979d640531c19355d", func := "portmanteau/portmanteaulaw28.MatchSaves", spec := "matchSaves", unfollowed := true, recurses := true, apart := false }
def MatchSavesSaid : Prop := matchSavesRow.holds Try.pinned (OpenSpec.ofChange matchSavesSpec)

/-- ITS FALSE NEIGHBOUR: 'it returns false'. Refute it at one input. -/
def matchSavesWrong : ChangeSpec := { name := "matchSaves", fn := fun _ => fun
  | [d1, d2, d3, d4] => { results := [.lit (.bool false)], args := [d1, d2, d3, d4] }
  | _ => none }
def MatchSavesWrongFalsely : Prop := matchSavesRow.holds Try.pinned (OpenSpec.ofChange matchSavesWrong)

/-- 'portmanteaulaw28.MatchHolds': WHATEVER THE INPUT: true; the input reads as it did. -/
def matchHoldsSpec : ChangeSpec := { name := "matchHolds", fn := fun _ => fun
  | [d1, d2, d3, d4] => { results := [.lit (.bool true)], args := [d1, d2, d3, d4] }
  | _ => none }
def matchHoldsRow : OpenClaim := { program := "ytaoiaiddamnbiaa", sum := "597a47066f76152153c3ceed954e0b685827e01b2aa0793979d640531c19355d", func := "portmanteau/portmanteaulaw28.MatchHolds", spec := "matchHolds", unfollowed := true, recurses := true, apart := false }
def MatchHoldsSaid : Prop := matchHoldsRow.holds Try.pinned (OpenSpec.ofChange matchHoldsSpec)

/-- ITS FALSE NEIGHBOUR: 'it returns false'. Refute it at one input. -/
def matchHoldsWrong : ChangeSpec := { name := "matchHolds", fn := fun _ => fun
  | [d1, d2, d3, d4] => { results := [.lit (.bool false)], args := [d1, d2, d3, d4] }
  | _ => none }
def MatchHoldsWrongFalsely : Prop := matchHoldsRow.holds Try.pinned (OpenSpec.ofChange matchHoldsWrong)

/-- 'portmanteaulaw28.MatchGoes': WHATEVER THE INPUT: true; the input reads as it did. -/
def matchGoesSpec : ChangeSpec := { name := "matchGoes", fn := fun _ => fun
  | [d1, d2, d3, d4, d5] => { results := [.lit (.bool true)], args := [d1, d2, d3, d4, d5] }
  | _ => none }
def matchGoesRow : OpenClaim := { program := "ytaoiaiddamnbiaa", sum := "597a47066f76152153c3ceed954e0b685827e01b2aa0793979d640531c19355d", func := "portmanteau/portmanteaulaw28.MatchGoes", spec := "matchGoes", unfollowed := true, recurses := true, apart := false }
def MatchGoesSaid : Prop := matchGoesRow.holds Try.pinned (OpenSpec.ofChange matchGoesSpec)

/-- ITS FALSE NEIGHBOUR: 'it returns false'. Refute it at one input. -/
def matchGoesWrong : ChangeSpec := { name := "matchGoes", fn := fun _ => fun
  | [d1, d2, d3, d4, d5] => { results := [.lit (.bool false)], args := [d1, d2, d3, d4, d5] }
  | _ => none }
def MatchGoesWrongFalsely : Prop := matchGoesRow.holds Try.pinned (OpenSpec.ofChange matchGoesWrong)

/- THE SECOND FORM. 'bulk': how many values and letters a reading holds, each counted each time it is reached (what is shared counts as often as it is met; a slice's spare places count too). A statement '..UptoSaid' is the law's where the arguments, and the package variables that the reading takes, are together of bulk at most 1048576: NARROWER than '..Said'. Prove '..Said' where nothing that the law and all that it calls make is longer than what came in: it says more and counts as full. Else prove '..UptoSaid'. A law counts once. -/
mutual
def uptoBulk {H : Type} : DataW H → Nat
  | .lit (.string bytes) => bytes.length + 1
  | .lit _ => 1
  | .nil => 1
  | .ptr d => uptoBulk d + 1
  | .slice elems spare => uptoBulkAll elems + uptoBulkAll spare + 1
  | .agg parts => uptoBulkAll parts + 1
  | .iface _ d => uptoBulk d + 1
  | .map entries => uptoBulkEntries entries + 1
  | .held _ => 1
def uptoBulkAll {H : Type} : List (DataW H) → Nat
  | [] => 0
  | d :: r => uptoBulk d + uptoBulkAll r
def uptoBulkEntries {H : Type} : List (Lit × DataW H) → Nat
  | [] => 0
  | x :: r => uptoBulkEntry x + uptoBulkEntries r
def uptoBulkEntry {H : Type} : Lit × DataW H → Nat
  | (.string bytes, d) => bytes.length + uptoBulk d + 1
  | (_, d) => uptoBulk d + 1
 end
def uptoSmall : (H : Type) → List (DataW H) → Bool := fun _ ds => decide (uptoBulkAll ds ≤ 1048576)
def OpenSpec.upto (s : _root_.Go.ChangeSpec) : _root_.Go.OpenSpec := { _root_.Go.OpenSpec.ofChange s with cond := some uptoSmall }

/-- 'portmanteaulaw28.MatchLens', WHERE WHAT IT READS IS OF BULK AT MOST 1048576: true; the input reads as it did. -/
def matchLensUptoRow : OpenClaim := { program := "ytaoiaiddamnbiaa", sum := "597a47066f76152153c3ceed954e0b685827e01b2aa0793979d640531c19355d", func := "portmanteau/portmanteaulaw28.MatchLens", spec := "matchLens", unfollowed := true, recurses := true, apart := false, narrowed := true }
def MatchLensUptoSaid : Prop := matchLensUptoRow.holds Try.pinned (OpenSpec.upto matchLensSpec)

/-- 'portmanteaulaw28.MatchBest', WHERE WHAT IT READS IS OF BULK AT MOST 1048576: true; the input reads as it did. -/
def matchBestUptoRow : OpenClaim := { program := "ytaoiaiddamnbiaa", sum := "597a47066f76152153c3ceed954e0b685827e01b2aa0793979d640531c19355d", func := "portmanteau/portmanteaulaw28.MatchBest", spec := "matchBest", unfollowed := true, recurses := true, apart := false, narrowed := true }
def MatchBestUptoSaid : Prop := matchBestUptoRow.holds Try.pinned (OpenSpec.upto matchBestSpec)

/-- 'portmanteaulaw28.MatchPrice', WHERE WHAT IT READS IS OF BULK AT MOST 1048576: true; the input reads as it did. -/
def matchPriceUptoRow : OpenClaim := { program := "ytaoiaiddamnbiaa", sum := "597a47066f76152153c3ceed954e0b685827e01b2aa0793979d640531c19355d", func := "portmanteau/portmanteaulaw28.MatchPrice", spec := "matchPrice", unfollowed := true, recurses := true, apart := false, narrowed := true }
def MatchPriceUptoSaid : Prop := matchPriceUptoRow.holds Try.pinned (OpenSpec.upto matchPriceSpec)

/-- 'portmanteaulaw28.MatchLonger', WHERE WHAT IT READS IS OF BULK AT MOST 1048576: true; the input reads as it did. -/
def matchLongerUptoRow : OpenClaim := { program := "ytaoiaiddamnbiaa", sum := "597a47066f76152153c3ceed954e0b685827e01b2aa0793979d640531c19355d", func := "portmanteau/portmanteaulaw28.MatchLonger", spec := "matchLonger", unfollowed := true, recurses := true, apart := false, narrowed := true }
def MatchLongerUptoSaid : Prop := matchLongerUptoRow.holds Try.pinned (OpenSpec.upto matchLongerSpec)

/-- 'portmanteaulaw28.MatchIs', WHERE WHAT IT READS IS OF BULK AT MOST 1048576: true; the input reads as it did. -/
def matchIsUptoRow : OpenClaim := { program := "ytaoiaiddamnbiaa", sum := "597a47066f76152153c3ceed954e0b685827e01b2aa0793979d640531c19355d", func := "portmanteau/portmanteaulaw28.MatchIs", spec := "matchIs", unfollowed := true, recurses := true, apart := false, narrowed := true }
def MatchIsUptoSaid : Prop := matchIsUptoRow.holds Try.pinned (OpenSpec.upto matchIsSpec)

/-- 'portmanteaulaw28.MatchSaves', WHERE WHAT IT READS IS OF BULK AT MOST 1048576: true; the input reads as it did. -/
def matchSavesUptoRow : OpenClaim := { program := "ytaoiaiddamnbiaa", sum := "597a47066f76152153c3ceed954e0b685827e01b2aa0793979d640531c19355d", func := "portmanteau/portmanteaulaw28.MatchSaves", spec := "matchSaves", unfollowed := true, recurses := true, apart := false, narrowed := true }
def MatchSavesUptoSaid : Prop := matchSavesUptoRow.holds Try.pinned (OpenSpec.upto matchSavesSpec)

/-- 'portmanteaulaw28.MatchHolds', WHERE WHAT IT READS IS OF BULK AT MOST 1048576: true; the input reads as it did. -/
def matchHoldsUptoRow : OpenClaim := { program := "ytaoiaiddamnbiaa", sum := "597a47066f76152153c3ceed954e0b685827e01b2aa0793979d640531c19355d", func := "portmanteau/portmanteaulaw28.MatchHolds", spec := "matchHolds", unfollowed := true, recurses := true, apart := false, narrowed := true }
def MatchHoldsUptoSaid : Prop := matchHoldsUptoRow.holds Try.pinned (OpenSpec.upto matchHoldsSpec)

/-- 'portmanteaulaw28.MatchGoes', WHERE WHAT IT READS IS OF BULK AT MOST 1048576: true; the input reads as it did. -/
def matchGoesUptoRow : OpenClaim := { program := "ytaoiaiddamnbiaa", sum := "597a47066f76152153c3ceed954e0b685827e01b2aa0793979d640531c19355d", func := "portmanteau/portmanteaulaw28.MatchGoes", spec := "matchGoes", unfollowed := true, recurses := true, apart := false, narrowed := true }
def MatchGoesUptoSaid : Prop := matchGoesUptoRow.holds Try.pinned (OpenSpec.upto matchGoesSpec)

end Rows
end Go.Proofs.Ytaoiaiddamnbiaa
