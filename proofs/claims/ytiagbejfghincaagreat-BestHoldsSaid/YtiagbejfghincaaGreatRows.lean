/-
  No cell of these rows narrows 'for every input' (looked for: loops, veiled, ifaces, maps, wideKeys, modest, calm, conditions, laid).
  DERIVED. THE GIVEN ROWS OF THIS SEAT. 8 by the template 'for every input the law returns true; each argument reads behind the call as it read before'; 0 by the template 'total and deterministic' (their statements: YtiagbejfghincaaGreatTotals.lean).
  GIVEN WITH THE SEED: the statements are not yours to turn. If you find one false, say at which input.
  Laid BY PROGRAM, IN A SANDBOX (cutbox-rows.mjs): the forced cells as the released guide's own fill.sh prints them over the translation f1dcfe55a5cb88b1… (all of the seat's roots in one cut). By AI agents, Wed Nov 11 2026. No macro, syntax, notation, axiom, sorry.
-/
import Derived.Test.YtiagbejfghincaaGreatChecked
import GoSem.Claim
import GoSem.ClaimJoined
import GoSem.ClaimMapViews
import Derived.JoinedTies
import Derived.KernelRfl
namespace Go.Proofs.YtiagbejfghincaaGreat
/- THE CELL 'sum', in the pinned program and in every row, IS THE sha256 OF THE DUMP (.gsa) THAT YtiagbejfghincaaGreatProg.lean LOADS. Nothing in Lean hashes anything: it is a label: what it is worth is what the hold of that sum in a sandbox is worth. -/
noncomputable def Tryz.pinned : Pinned := { name := "ytiagbejfghincaagreat", sum := "f1dcfe55a5cb88b1ee61307d67b0b51e27680d2b4a7ab64fea0c86eefbd644b0", checked := Tryz.checked }
namespace Rows
def none {H : Type} : Left H := { results := [], args := [] }

/-- 'portmanteaulaw33.BestSteps': WHATEVER THE INPUT: true; the input reads as it did. -/
def bestStepsSpec : ChangeSpec := { name := "bestSteps", fn := fun _ => fun
  | [d1, d2, d3] => { results := [.lit (.bool true)], args := [d1, d2, d3] }
  | _ => none }
def bestStepsRow : OpenClaim := { program := "ytiagbejfghincaagreat", sum := "f1dcfe55a5cb88b1ee61307d67b0b51e27680d2b4a7ab64fea0c86eefbd644b0", func := "portmanteau/portmanteaulaw33.BestSteps", spec := "bestSteps", unfollowed := true, recurses := true, plainKeys := false, apart := false }
def BestStepsSaid : Prop := bestStepsRow.holds Tryz.pinned (OpenSpec.ofChange bestStepsSpec)

/-- ITS FALSE NEIGHBOUR: 'it returns false'. Refute it at one input. -/
def bestStepsWrong : ChangeSpec := { name := "bestSteps", fn := fun _ => fun
  | [d1, d2, d3] => { results := [.lit (.bool false)], args := [d1, d2, d3] }
  | _ => none }
def BestStepsWrongFalsely : Prop := bestStepsRow.holds Tryz.pinned (OpenSpec.ofChange bestStepsWrong)

/-- 'portmanteaulaw33.BestLeast': WHATEVER THE INPUT: true; the input reads as it did. -/
def bestLeastSpec : ChangeSpec := { name := "bestLeast", fn := fun _ => fun
  | [d] => { results := [.lit (.bool true)], args := [d] }
  | _ => none }
def bestLeastRow : OpenClaim := { program := "ytiagbejfghincaagreat", sum := "f1dcfe55a5cb88b1ee61307d67b0b51e27680d2b4a7ab64fea0c86eefbd644b0", func := "portmanteau/portmanteaulaw33.BestLeast", spec := "bestLeast", unfollowed := true, recurses := true, plainKeys := false, apart := false }
def BestLeastSaid : Prop := bestLeastRow.holds Tryz.pinned (OpenSpec.ofChange bestLeastSpec)

/-- ITS FALSE NEIGHBOUR: 'it returns false'. Refute it at one input. -/
def bestLeastWrong : ChangeSpec := { name := "bestLeast", fn := fun _ => fun
  | [d] => { results := [.lit (.bool false)], args := [d] }
  | _ => none }
def BestLeastWrongFalsely : Prop := bestLeastRow.holds Tryz.pinned (OpenSpec.ofChange bestLeastWrong)

/-- 'portmanteaulaw33.BestWith': WHATEVER THE INPUT: true; the input reads as it did. -/
def bestWithSpec : ChangeSpec := { name := "bestWith", fn := fun _ => fun
  | [d] => { results := [.lit (.bool true)], args := [d] }
  | _ => none }
def bestWithRow : OpenClaim := { program := "ytiagbejfghincaagreat", sum := "f1dcfe55a5cb88b1ee61307d67b0b51e27680d2b4a7ab64fea0c86eefbd644b0", func := "portmanteau/portmanteaulaw33.BestWith", spec := "bestWith", unfollowed := true, recurses := true, plainKeys := false, apart := false }
def BestWithSaid : Prop := bestWithRow.holds Tryz.pinned (OpenSpec.ofChange bestWithSpec)

/-- ITS FALSE NEIGHBOUR: 'it returns false'. Refute it at one input. -/
def bestWithWrong : ChangeSpec := { name := "bestWith", fn := fun _ => fun
  | [d] => { results := [.lit (.bool false)], args := [d] }
  | _ => none }
def BestWithWrongFalsely : Prop := bestWithRow.holds Tryz.pinned (OpenSpec.ofChange bestWithWrong)

/-- 'portmanteaulaw33.BestFrom': WHATEVER THE INPUT: true; the input reads as it did. -/
def bestFromSpec : ChangeSpec := { name := "bestFrom", fn := fun _ => fun
  | [d1, d2] => { results := [.lit (.bool true)], args := [d1, d2] }
  | _ => none }
def bestFromRow : OpenClaim := { program := "ytiagbejfghincaagreat", sum := "f1dcfe55a5cb88b1ee61307d67b0b51e27680d2b4a7ab64fea0c86eefbd644b0", func := "portmanteau/portmanteaulaw33.BestFrom", spec := "bestFrom", unfollowed := true, recurses := true, plainKeys := false, apart := false }
def BestFromSaid : Prop := bestFromRow.holds Tryz.pinned (OpenSpec.ofChange bestFromSpec)

/-- ITS FALSE NEIGHBOUR: 'it returns false'. Refute it at one input. -/
def bestFromWrong : ChangeSpec := { name := "bestFrom", fn := fun _ => fun
  | [d1, d2] => { results := [.lit (.bool false)], args := [d1, d2] }
  | _ => none }
def BestFromWrongFalsely : Prop := bestFromRow.holds Tryz.pinned (OpenSpec.ofChange bestFromWrong)

/-- 'portmanteaulaw33.BestCosts': WHATEVER THE INPUT: true; the input reads as it did. -/
def bestCostsSpec : ChangeSpec := { name := "bestCosts", fn := fun _ => fun
  | [d1, d2] => { results := [.lit (.bool true)], args := [d1, d2] }
  | _ => none }
def bestCostsRow : OpenClaim := { program := "ytiagbejfghincaagreat", sum := "f1dcfe55a5cb88b1ee61307d67b0b51e27680d2b4a7ab64fea0c86eefbd644b0", func := "portmanteau/portmanteaulaw33.BestCosts", spec := "bestCosts", unfollowed := true, recurses := true, plainKeys := false, apart := false }
def BestCostsSaid : Prop := bestCostsRow.holds Tryz.pinned (OpenSpec.ofChange bestCostsSpec)

/-- ITS FALSE NEIGHBOUR: 'it returns false'. Refute it at one input. -/
def bestCostsWrong : ChangeSpec := { name := "bestCosts", fn := fun _ => fun
  | [d1, d2] => { results := [.lit (.bool false)], args := [d1, d2] }
  | _ => none }
def BestCostsWrongFalsely : Prop := bestCostsRow.holds Tryz.pinned (OpenSpec.ofChange bestCostsWrong)

/-- 'portmanteaulaw33.BestHolds': WHATEVER THE INPUT: true; the input reads as it did. -/
def bestHoldsSpec : ChangeSpec := { name := "bestHolds", fn := fun _ => fun
  | [d1, d2] => { results := [.lit (.bool true)], args := [d1, d2] }
  | _ => none }
def bestHoldsRow : OpenClaim := { program := "ytiagbejfghincaagreat", sum := "f1dcfe55a5cb88b1ee61307d67b0b51e27680d2b4a7ab64fea0c86eefbd644b0", func := "portmanteau/portmanteaulaw33.BestHolds", spec := "bestHolds", unfollowed := true, recurses := true, plainKeys := false, apart := false }
def BestHoldsSaid : Prop := bestHoldsRow.holds Tryz.pinned (OpenSpec.ofChange bestHoldsSpec)

/-- ITS FALSE NEIGHBOUR: 'it returns false'. Refute it at one input. -/
def bestHoldsWrong : ChangeSpec := { name := "bestHolds", fn := fun _ => fun
  | [d1, d2] => { results := [.lit (.bool false)], args := [d1, d2] }
  | _ => none }
def BestHoldsWrongFalsely : Prop := bestHoldsRow.holds Tryz.pinned (OpenSpec.ofChange bestHoldsWrong)

/-- 'portmanteaulaw33.BestParse': WHATEVER THE INPUT: true; the input reads as it did. -/
def bestParseSpec : ChangeSpec := { name := "bestParse", fn := fun _ => fun
  | [d] => { results := [.lit (.bool true)], args := [d] }
  | _ => none }
def bestParseRow : OpenClaim := { program := "ytiagbejfghincaagreat", sum := "f1dcfe55a5cb88b1ee61307d67b0b51e27680d2b4a7ab64fea0c86eefbd644b0", func := "portmanteau/portmanteaulaw33.BestParse", spec := "bestParse", unfollowed := true, recurses := true, plainKeys := false, apart := false }
def BestParseSaid : Prop := bestParseRow.holds Tryz.pinned (OpenSpec.ofChange bestParseSpec)

/-- ITS FALSE NEIGHBOUR: 'it returns false'. Refute it at one input. -/
def bestParseWrong : ChangeSpec := { name := "bestParse", fn := fun _ => fun
  | [d] => { results := [.lit (.bool false)], args := [d] }
  | _ => none }
def BestParseWrongFalsely : Prop := bestParseRow.holds Tryz.pinned (OpenSpec.ofChange bestParseWrong)

/-- 'portmanteaulaw33.BestNone': WHATEVER THE INPUT: true; the input reads as it did. -/
def bestNoneSpec : ChangeSpec := { name := "bestNone", fn := fun _ => fun
  | [d1, d2, d3] => { results := [.lit (.bool true)], args := [d1, d2, d3] }
  | _ => none }
def bestNoneRow : OpenClaim := { program := "ytiagbejfghincaagreat", sum := "f1dcfe55a5cb88b1ee61307d67b0b51e27680d2b4a7ab64fea0c86eefbd644b0", func := "portmanteau/portmanteaulaw33.BestNone", spec := "bestNone", unfollowed := true, recurses := true, plainKeys := false, apart := false }
def BestNoneSaid : Prop := bestNoneRow.holds Tryz.pinned (OpenSpec.ofChange bestNoneSpec)

/-- ITS FALSE NEIGHBOUR: 'it returns false'. Refute it at one input. -/
def bestNoneWrong : ChangeSpec := { name := "bestNone", fn := fun _ => fun
  | [d1, d2, d3] => { results := [.lit (.bool false)], args := [d1, d2, d3] }
  | _ => none }
def BestNoneWrongFalsely : Prop := bestNoneRow.holds Tryz.pinned (OpenSpec.ofChange bestNoneWrong)

/- THE SECOND FORM. 'bulk': how many values and letters a reading holds, each counted each time it is reached (what is shared counts as often as it is met; a slice's spare places count too). A statement '..UptoSaid' is the law's where the arguments, and the package variables that the reading takes, are together of bulk at most 1048576: NARROWER than '..Said'. Prove '..Said' where nothing that the law and all that it calls make is longer than what came in: it says more and counts as full. Else prove '..UptoSaid'. A law counts once. -/
mutual
def uptoBulk {H : Type} : DataW H → Nat
  | .lit (.string bytes) => bytes.length + 1
  | .lit _ => 1
  | .nil => 1
  | .ptr d => uptoBulk d + 1
  | .slice elems spare => uptoBulkAll elems + uptoBulkAll spare + 1
  | .agg parts => uptoBulkAll parts + 1
  | .iface _ d => uptoBulk d + 1
  | .map entries => uptoBulkEntries entries + 1
  | .held _ => 1
def uptoBulkAll {H : Type} : List (DataW H) → Nat
  | [] => 0
  | d :: r => uptoBulk d + uptoBulkAll r
def uptoBulkEntries {H : Type} : List (Lit × DataW H) → Nat
  | [] => 0
  | x :: r => uptoBulkEntry x + uptoBulkEntries r
def uptoBulkEntry {H : Type} : Lit × DataW H → Nat
  | (.string bytes, d) => bytes.length + uptoBulk d + 1
  | (_, d) => uptoBulk d + 1
 end
def uptoSmall : (H : Type) → List (DataW H) → Bool := fun _ ds => decide (uptoBulkAll ds ≤ 1048576)
def OpenSpec.upto (s : _root_.Go.ChangeSpec) : _root_.Go.OpenSpec := { _root_.Go.OpenSpec.ofChange s with cond := some uptoSmall }

/-- 'portmanteaulaw33.BestSteps', WHERE WHAT IT READS IS OF BULK AT MOST 1048576: true; the input reads as it did. -/
def bestStepsUptoRow : OpenClaim := { program := "ytiagbejfghincaagreat", sum := "f1dcfe55a5cb88b1ee61307d67b0b51e27680d2b4a7ab64fea0c86eefbd644b0", func := "portmanteau/portmanteaulaw33.BestSteps", spec := "bestSteps", unfollowed := true, recurses := true, plainKeys := false, apart := false, narrowed := true }
def BestStepsUptoSaid : Prop := bestStepsUptoRow.holds Tryz.pinned (OpenSpec.upto bestStepsSpec)

/-- 'portmanteaulaw33.BestLeast', WHERE WHAT IT READS IS OF BULK AT MOST 1048576: true; the input reads as it did. -/
def bestLeastUptoRow : OpenClaim := { program := "ytiagbejfghincaagreat", sum := "f1dcfe55a5cb88b1ee61307d67b0b51e27680d2b4a7ab64fea0c86eefbd644b0", func := "portmanteau/portmanteaulaw33.BestLeast", spec := "bestLeast", unfollowed := true, recurses := true, plainKeys := false, apart := false, narrowed := true }
def BestLeastUptoSaid : Prop := bestLeastUptoRow.holds Tryz.pinned (OpenSpec.upto bestLeastSpec)

/-- 'portmanteaulaw33.BestWith', WHERE WHAT IT READS IS OF BULK AT MOST 1048576: true; the input reads as it did. -/
def bestWithUptoRow : OpenClaim := { program := "ytiagbejfghincaagreat", sum := "f1dcfe55a5cb88b1ee61307d67b0b51e27680d2b4a7ab64fea0c86eefbd644b0", func := "portmanteau/portmanteaulaw33.BestWith", spec := "bestWith", unfollowed := true, recurses := true, plainKeys := false, apart := false, narrowed := true }
def BestWithUptoSaid : Prop := bestWithUptoRow.holds Tryz.pinned (OpenSpec.upto bestWithSpec)

/-- 'portmanteaulaw33.BestFrom', WHERE WHAT IT READS IS OF BULK AT MOST 1048576: true; the input reads as it did. -/
def bestFromUptoRow : OpenClaim := { program := "ytiagbejfghincaagreat", sum := "f1dcfe55a5cb88b1ee61307d67b0b51e27680d2b4a7ab64fea0c86eefbd644b0", func := "portmanteau/portmanteaulaw33.BestFrom", spec := "bestFrom", unfollowed := true, recurses := true, plainKeys := false, apart := false, narrowed := true }
def BestFromUptoSaid : Prop := bestFromUptoRow.holds Tryz.pinned (OpenSpec.upto bestFromSpec)

/-- 'portmanteaulaw33.BestCosts', WHERE WHAT IT READS IS OF BULK AT MOST 1048576: true; the input reads as it did. -/
def bestCostsUptoRow : OpenClaim := { program := "ytiagbejfghincaagreat", sum := "f1dcfe55a5cb88b1ee61307d67b0b51e27680d2b4a7ab64fea0c86eefbd644b0", func := "portmanteau/portmanteaulaw33.BestCosts", spec := "bestCosts", unfollowed := true, recurses := true, plainKeys := false, apart := false, narrowed := true }
def BestCostsUptoSaid : Prop := bestCostsUptoRow.holds Tryz.pinned (OpenSpec.upto bestCostsSpec)

/-- 'portmanteaulaw33.BestHolds', WHERE WHAT IT READS IS OF BULK AT MOST 1048576: true; the input reads as it did. -/
def bestHoldsUptoRow : OpenClaim := { program := "ytiagbejfghincaagreat", sum := "f1dcfe55a5cb88b1ee61307d67b0b51e27680d2b4a7ab64fea0c86eefbd644b0", func := "portmanteau/portmanteaulaw33.BestHolds", spec := "bestHolds", unfollowed := true, recurses := true, plainKeys := false, apart := false, narrowed := true }
def BestHoldsUptoSaid : Prop := bestHoldsUptoRow.holds Tryz.pinned (OpenSpec.upto bestHoldsSpec)

/-- 'portmanteaulaw33.BestParse', WHERE WHAT IT READS IS OF BULK AT MOST 1048576: true; the input reads as it did. -/
def bestParseUptoRow : OpenClaim := { program := "ytiagbejfghincaagreat", sum := "f1dcfe55a5cb88b1ee61307d67b0b51e27680d2b4a7ab64fea0c86eefbd644b0", func := "portmanteau/portmanteaulaw33.BestParse", spec := "bestParse", unfollowed := true, recurses := true, plainKeys := false, apart := false, narrowed := true }
def BestParseUptoSaid : Prop := bestParseUptoRow.holds Tryz.pinned (OpenSpec.upto bestParseSpec)

/-- 'portmanteaulaw33.BestNone', WHERE WHAT IT READS IS OF BULK AT MOST 1048576: true; the input reads as it did. -/
def bestNoneUptoRow : OpenClaim := { program := "ytiagbejfghincaagreat", sum := "f1dcfe55a5cb88b1ee61307d67b0b51e27680d2b4a7ab64fea0c86eefbd644b0", func := "portmanteau/portmanteaulaw33.BestNone", spec := "bestNone", unfollowed := true, recurses := true, plainKeys := false, apart := false, narrowed := true }
def BestNoneUptoSaid : Prop := bestNoneUptoRow.holds Tryz.pinned (OpenSpec.upto bestNoneSpec)

end Rows
end Go.Proofs.YtiagbejfghincaaGreat
