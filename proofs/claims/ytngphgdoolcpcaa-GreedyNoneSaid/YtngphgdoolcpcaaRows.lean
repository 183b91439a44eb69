/-
  No cell of these rows narrows 'for every input' (looked for: loops, veiled, ifaces, maps, wideKeys, modest, calm, conditions, laid).
  DERIVED. THE GIVEN ROWS OF THIS SEAT. 8 by the template 'for every input the law returns true; each argument reads behind the call as it read before'; 0 by the template 'total and deterministic' (their statements: YtngphgdoolcpcaaTotals.lean).
  GIVEN WITH THE SEED: the statements are not yours to turn. If you find one false, say at which input.
  Laid BY PROGRAM, IN A SANDBOX (cutbox-rows.mjs): the forced cells as the released guide's own fill.sh prints them over the translation 923e07d618c80dbc… (all of the seat's roots in one cut). By AI agents, Wed Nov 11 2026. No macro, syntax, notation, axiom, sorry.
-/
import Derived.Test.YtngphgdoolcpcaaChecked
import GoSem.Claim
import GoSem.ClaimJoined
import GoSem.ClaimMapViews
import Derived.JoinedTies
import Derived.KernelRfl
namespace Go.Proofs.Ytngphgdoolcpcaa
/- THE CELL 'sum', in the pinned program and in every row, IS THE sha256 OF THE DUMP (.gsa) THAT YtngphgdoolcpcaaProg.lean LOADS. Nothing in Lean hashes anything: it is a label: what it is worth is what the hold of that sum in a sandbox is worth. -/
noncomputable def Try.pinned : Pinned := { name := "ytngphgdoolcpcaa", sum := "923e07d618c80dbcdb13db015fbfef102faf237822e8530e9e207ac0cae5bd8d", checked := Try.checked }
namespace Rows
def none {H : Type} : Left H := { results := [], args := [] }

/-- 'portmanteaulaw30.GreedyParses': WHATEVER THE INPUT: true; the input reads as it did. -/
def greedyParsesSpec : ChangeSpec := { name := "greedyParses", fn := fun _ => fun
  | [d1, d2, d3, d4] => { results := [.lit (.bool true)], args := [d1, d2, d3, d4] }
  | _ => none }
def greedyParsesRow : OpenClaim := { program := "ytngphgdoolcpcaa", sum := "923e07d618c80dbcdb13db015fbfef102faf237822e8530e9e207ac0cae5bd8d", func := "portmanteau/portmanteaulaw30.GreedyParses", spec := "greedyParses", unfollowed := true, recurses := true, plainKeys := false, apart := false }
def GreedyParsesSaid : Prop := greedyParsesRow.holds Try.pinned (OpenSpec.ofChange greedyParsesSpec)

/-- ITS FALSE NEIGHBOUR: 'it returns false'. Refute it at one input. -/
def greedyParsesWrong : ChangeSpec := { name := "greedyParses", fn := fun _ => fun
  | [d1, d2, d3, d4] => { results := [.lit (.bool false)], args := [d1, d2, d3, d4] }
  | _ => none }
def GreedyParsesWrongFalsely : Prop := greedyParsesRow.holds Try.pinned (OpenSpec.ofChange greedyParsesWrong)

/-- 'portmanteaulaw30.GreedyFroms': WHATEVER THE INPUT: true; the input reads as it did. -/
def greedyFromsSpec : ChangeSpec := { name := "greedyFroms", fn := fun _ => fun
  | [d1, d2, d3, d4, d5, d6] => { results := [.lit (.bool true)], args := [d1, d2, d3, d4, d5, d6] }
  | _ => none }
def greedyFromsRow : OpenClaim := { program := "ytngphgdoolcpcaa", sum := "923e07d618c80dbcdb13db015fbfef102faf237822e8530e9e207ac0cae5bd8d", func := "portmanteau/portmanteaulaw30.GreedyFroms", spec := "greedyFroms", unfollowed := true, recurses := true, plainKeys := false, apart := false }
def GreedyFromsSaid : Prop := greedyFromsRow.holds Try.pinned (OpenSpec.ofChange greedyFromsSpec)

/-- ITS FALSE NEIGHBOUR: 'it returns false'. Refute it at one input. -/
def greedyFromsWrong : ChangeSpec := { name := "greedyFroms", fn := fun _ => fun
  | [d1, d2, d3, d4, d5, d6] => { results := [.lit (.bool false)], args := [d1, d2, d3, d4, d5, d6] }
  | _ => none }
def GreedyFromsWrongFalsely : Prop := greedyFromsRow.holds Try.pinned (OpenSpec.ofChange greedyFromsWrong)

/-- 'portmanteaulaw30.GreedyLits': WHATEVER THE INPUT: true; the input reads as it did. -/
def greedyLitsSpec : ChangeSpec := { name := "greedyLits", fn := fun _ => fun
  | [d1, d2, d3, d4, d5] => { results := [.lit (.bool true)], args := [d1, d2, d3, d4, d5] }
  | _ => none }
def greedyLitsRow : OpenClaim := { program := "ytngphgdoolcpcaa", sum := "923e07d618c80dbcdb13db015fbfef102faf237822e8530e9e207ac0cae5bd8d", func := "portmanteau/portmanteaulaw30.GreedyLits", spec := "greedyLits", unfollowed := true, recurses := true, plainKeys := false, apart := false }
def GreedyLitsSaid : Prop := greedyLitsRow.holds Try.pinned (OpenSpec.ofChange greedyLitsSpec)

/-- ITS FALSE NEIGHBOUR: 'it returns false'. Refute it at one input. -/
def greedyLitsWrong : ChangeSpec := { name := "greedyLits", fn := fun _ => fun
  | [d1, d2, d3, d4, d5] => { results := [.lit (.bool false)], args := [d1, d2, d3, d4, d5] }
  | _ => none }
def GreedyLitsWrongFalsely : Prop := greedyLitsRow.holds Try.pinned (OpenSpec.ofChange greedyLitsWrong)

/-- 'portmanteaulaw30.GreedyRest': WHATEVER THE INPUT: true; the input reads as it did. -/
def greedyRestSpec : ChangeSpec := { name := "greedyRest", fn := fun _ => fun
  | [d1, d2, d3, d4, d5] => { results := [.lit (.bool true)], args := [d1, d2, d3, d4, d5] }
  | _ => none }
def greedyRestRow : OpenClaim := { program := "ytngphgdoolcpcaa", sum := "923e07d618c80dbcdb13db015fbfef102faf237822e8530e9e207ac0cae5bd8d", func := "portmanteau/portmanteaulaw30.GreedyRest", spec := "greedyRest", unfollowed := true, recurses := true, plainKeys := false, apart := false }
def GreedyRestSaid : Prop := greedyRestRow.holds Try.pinned (OpenSpec.ofChange greedyRestSpec)

/-- ITS FALSE NEIGHBOUR: 'it returns false'. Refute it at one input. -/
def greedyRestWrong : ChangeSpec := { name := "greedyRest", fn := fun _ => fun
  | [d1, d2, d3, d4, d5] => { results := [.lit (.bool false)], args := [d1, d2, d3, d4, d5] }
  | _ => none }
def GreedyRestWrongFalsely : Prop := greedyRestRow.holds Try.pinned (OpenSpec.ofChange greedyRestWrong)

/-- 'portmanteaulaw30.GreedyLeast': WHATEVER THE INPUT: true; the input reads as it did. -/
def greedyLeastSpec : ChangeSpec := { name := "greedyLeast", fn := fun _ => fun
  | [d1, d2, d3, d4, d5, d6] => { results := [.lit (.bool true)], args := [d1, d2, d3, d4, d5, d6] }
  | _ => none }
def greedyLeastRow : OpenClaim := { program := "ytngphgdoolcpcaa", sum := "923e07d618c80dbcdb13db015fbfef102faf237822e8530e9e207ac0cae5bd8d", func := "portmanteau/portmanteaulaw30.GreedyLeast", spec := "greedyLeast", unfollowed := true, recurses := true, plainKeys := false, apart := false }
def GreedyLeastSaid : Prop := greedyLeastRow.holds Try.pinned (OpenSpec.ofChange greedyLeastSpec)

/-- ITS FALSE NEIGHBOUR: 'it returns false'. Refute it at one input. -/
def greedyLeastWrong : ChangeSpec := { name := "greedyLeast", fn := fun _ => fun
  | [d1, d2, d3, d4, d5, d6] => { results := [.lit (.bool false)], args := [d1, d2, d3, d4, d5, d6] }
  | _ => none }
def GreedyLeastWrongFalsely : Prop := greedyLeastRow.holds Try.pinned (OpenSpec.ofChange greedyLeastWrong)

/-- 'portmanteaulaw30.GreedySteps': WHATEVER THE INPUT: true; the input reads as it did. -/
def greedyStepsSpec : ChangeSpec := { name := "greedySteps", fn := fun _ => fun
  | [d1, d2, d3, d4, d5, d6] => { results := [.lit (.bool true)], args := [d1, d2, d3, d4, d5, d6] }
  | _ => none }
def greedyStepsRow : OpenClaim := { program := "ytngphgdoolcpcaa", sum := "923e07d618c80dbcdb13db015fbfef102faf237822e8530e9e207ac0cae5bd8d", func := "portmanteau/portmanteaulaw30.GreedySteps", spec := "greedySteps", unfollowed := true, recurses := true, plainKeys := false, apart := false }
def GreedyStepsSaid : Prop := greedyStepsRow.holds Try.pinned (OpenSpec.ofChange greedyStepsSpec)

/-- ITS FALSE NEIGHBOUR: 'it returns false'. Refute it at one input. -/
def greedyStepsWrong : ChangeSpec := { name := "greedySteps", fn := fun _ => fun
  | [d1, d2, d3, d4, d5, d6] => { results := [.lit (.bool false)], args := [d1, d2, d3, d4, d5, d6] }
  | _ => none }
def GreedyStepsWrongFalsely : Prop := greedyStepsRow.holds Try.pinned (OpenSpec.ofChange greedyStepsWrong)

/-- 'portmanteaulaw30.GreedyNone': WHATEVER THE INPUT: true; the input reads as it did. -/
def greedyNoneSpec : ChangeSpec := { name := "greedyNone", fn := fun _ => fun
  | [d1, d2, d3] => { results := [.lit (.bool true)], args := [d1, d2, d3] }
  | _ => none }
def greedyNoneRow : OpenClaim := { program := "ytngphgdoolcpcaa", sum := "923e07d618c80dbcdb13db015fbfef102faf237822e8530e9e207ac0cae5bd8d", func := "portmanteau/portmanteaulaw30.GreedyNone", spec := "greedyNone", unfollowed := true, recurses := true, plainKeys := false, apart := false }
def GreedyNoneSaid : Prop := greedyNoneRow.holds Try.pinned (OpenSpec.ofChange greedyNoneSpec)

/-- ITS FALSE NEIGHBOUR: 'it returns false'. Refute it at one input. -/
def greedyNoneWrong : ChangeSpec := { name := "greedyNone", fn := fun _ => fun
  | [d1, d2, d3] => { results := [.lit (.bool false)], args := [d1, d2, d3] }
  | _ => none }
def GreedyNoneWrongFalsely : Prop := greedyNoneRow.holds Try.pinned (OpenSpec.ofChange greedyNoneWrong)

/-- 'portmanteaulaw30.GreedyHolds': WHATEVER THE INPUT: true; the input reads as it did. -/
def greedyHoldsSpec : ChangeSpec := { name := "greedyHolds", fn := fun _ => fun
  | [d1, d2, d3, d4, d5] => { results := [.lit (.bool true)], args := [d1, d2, d3, d4, d5] }
  | _ => none }
def greedyHoldsRow : OpenClaim := { program := "ytngphgdoolcpcaa", sum := "923e07d618c80dbcdb13db015fbfef102faf237822e8530e9e207ac0cae5bd8d", func := "portmanteau/portmanteaulaw30.GreedyHolds", spec := "greedyHolds", unfollowed := true, recurses := true, plainKeys := false, apart := false }
def GreedyHoldsSaid : Prop := greedyHoldsRow.holds Try.pinned (OpenSpec.ofChange greedyHoldsSpec)

/-- ITS FALSE NEIGHBOUR: 'it returns false'. Refute it at one input. -/
def greedyHoldsWrong : ChangeSpec := { name := "greedyHolds", fn := fun _ => fun
  | [d1, d2, d3, d4, d5] => { results := [.lit (.bool false)], args := [d1, d2, d3, d4, d5] }
  | _ => none }
def GreedyHoldsWrongFalsely : Prop := greedyHoldsRow.holds Try.pinned (OpenSpec.ofChange greedyHoldsWrong)

/- THE SECOND FORM. 'bulk': how many values and letters a reading holds, each counted each time it is reached (what is shared counts as often as it is met; a slice's spare places count too). A statement '..UptoSaid' is the law's where the arguments, and the package variables that the reading takes, are together of bulk at most 1048576: NARROWER than '..Said'. Prove '..Said' where nothing that the law and all that it calls make is longer than what came in: it says more and counts as full. Else prove '..UptoSaid'. A law counts once. -/
mutual
def uptoBulk {H : Type} : DataW H → Nat
  | .lit (.string bytes) => bytes.length + 1
  | .lit _ => 1
  | .nil => 1
  | .ptr d => uptoBulk d + 1
  | .slice elems spare => uptoBulkAll elems + uptoBulkAll spare + 1
  | .agg parts => uptoBulkAll parts + 1
  | .iface _ d => uptoBulk d + 1
  | .map entries => uptoBulkEntries entries + 1
  | .held _ => 1
def uptoBulkAll {H : Type} : List (DataW H) → Nat
  | [] => 0
  | d :: r => uptoBulk d + uptoBulkAll r
def uptoBulkEntries {H : Type} : List (Lit × DataW H) → Nat
  | [] => 0
  | x :: r => uptoBulkEntry x + uptoBulkEntries r
def uptoBulkEntry {H : Type} : Lit × DataW H → Nat
  | (.string bytes, d) => bytes.length + uptoBulk d + 1
  | (_, d) => uptoBulk d + 1
 end
def uptoSmall : (H : Type) → List (DataW H) → Bool := fun _ ds => decide (uptoBulkAll ds ≤ 1048576)
def OpenSpec.upto (s : _root_.Go.ChangeSpec) : _root_.Go.OpenSpec := { _root_.Go.OpenSpec.ofChange s with cond := some uptoSmall }

/-- 'portmanteaulaw30.GreedyParses', WHERE WHAT IT READS IS OF BULK AT MOST 1048576: true; the input reads as it did. -/
def greedyParsesUptoRow : OpenClaim := { program := "ytngphgdoolcpcaa", sum := "923e07d618c80dbcdb13db015fbfef102faf237822e8530e9e207ac0cae5bd8d", func := "portmanteau/portmanteaulaw30.GreedyParses", spec := "greedyParses", unfollowed := true, recurses := true, plainKeys := false, apart := false, narrowed := true }
def GreedyParsesUptoSaid : Prop := greedyParsesUptoRow.holds Try.pinned (OpenSpec.upto greedyParsesSpec)

/-- 'portmanteaulaw30.GreedyFroms', WHERE WHAT IT READS IS OF BULK AT MOST 1048576: true; the input reads as it did. -/
def greedyFromsUptoRow : OpenClaim := { program := "ytngphgdoolcpcaa", sum := "923e07d618c80dbcdb13db015fbfef102faf237822e8530e9e207ac0cae5bd8d", func := "portmanteau/portmanteaulaw30.GreedyFroms", spec := "greedyFroms", unfollowed := true, recurses := true, plainKeys := false, apart := false, narrowed := true }
def GreedyFromsUptoSaid : Prop := greedyFromsUptoRow.holds Try.pinned (OpenSpec.upto greedyFromsSpec)

/-- 'portmanteaulaw30.GreedyLits', WHERE WHAT IT READS IS OF BULK AT MOST 1048576: true; the input reads as it did. -/
def greedyLitsUptoRow : OpenClaim := { program := "ytngphgdoolcpcaa", sum := "923e07d618c80dbcdb13db015fbfef102faf237822e8530e9e207ac0cae5bd8d", func := "portmanteau/portmanteaulaw30.GreedyLits", spec := "greedyLits", unfollowed := true, recurses := true, plainKeys := false, apart := false, narrowed := true }
def GreedyLitsUptoSaid : Prop := greedyLitsUptoRow.holds Try.pinned (OpenSpec.upto greedyLitsSpec)

/-- 'portmanteaulaw30.GreedyRest', WHERE WHAT IT READS IS OF BULK AT MOST 1048576: true; the input reads as it did. -/
def greedyRestUptoRow : OpenClaim := { program := "ytngphgdoolcpcaa", sum := "923e07d618c80dbcdb13db015fbfef102faf237822e8530e9e207ac0cae5bd8d", func := "portmanteau/portmanteaulaw30.GreedyRest", spec := "greedyRest", unfollowed := true, recurses := true, plainKeys := false, apart := false, narrowed := true }
def GreedyRestUptoSaid : Prop := greedyRestUptoRow.holds Try.pinned (OpenSpec.upto greedyRestSpec)

/-- 'portmanteaulaw30.GreedyLeast', WHERE WHAT IT READS IS OF BULK AT MOST 1048576: true; the input reads as it did. -/
def greedyLeastUptoRow : OpenClaim := { program := "ytngphgdoolcpcaa", sum := "923e07d618c80dbcdb13db015fbfef102faf237822e8530e9e207ac0cae5bd8d", func := "portmanteau/portmanteaulaw30.GreedyLeast", spec := "greedyLeast", unfollowed := true, recurses := true, plainKeys := false, apart := false, narrowed := true }
def GreedyLeastUptoSaid : Prop := greedyLeastUptoRow.holds Try.pinned (OpenSpec.upto greedyLeastSpec)

/-- 'portmanteaulaw30.GreedySteps', WHERE WHAT IT READS IS OF BULK AT MOST 1048576: true; the input reads as it did. -/
def greedyStepsUptoRow : OpenClaim := { program := "ytngphgdoolcpcaa", sum := "923e07d618c80dbcdb13db015fbfef102faf237822e8530e9e207ac0cae5bd8d", func := "portmanteau/portmanteaulaw30.GreedySteps", spec := "greedySteps", unfollowed := true, recurses := true, plainKeys := false, apart := false, narrowed := true }
def GreedyStepsUptoSaid : Prop := greedyStepsUptoRow.holds Try.pinned (OpenSpec.upto greedyStepsSpec)

/-- 'portmanteaulaw30.GreedyNone', WHERE WHAT IT READS IS OF BULK AT MOST 1048576: true; the input reads as it did. -/
def greedyNoneUptoRow : OpenClaim := { program := "ytngphgdoolcpcaa", sum := "923e07d618c80dbcdb13db015fbfef102faf237822e8530e9e207ac0cae5bd8d", func := "portmanteau/portmanteaulaw30.GreedyNone", spec := "greedyNone", unfollowed := true, recurses := true, plainKeys := false, apart := false, narrowed := true }
def GreedyNoneUptoSaid : Prop := greedyNoneUptoRow.holds Try.pinned (OpenSpec.upto greedyNoneSpec)

/-- 'portmanteaulaw30.GreedyHolds', WHERE WHAT IT READS IS OF BULK AT MOST 1048576: true; the input reads as it did. -/
def greedyHoldsUptoRow : OpenClaim := { program := "ytngphgdoolcpcaa", sum := "923e07d618c80dbcdb13db015fbfef102faf237822e8530e9e207ac0cae5bd8d", func := "portmanteau/portmanteaulaw30.GreedyHolds", spec := "greedyHolds", unfollowed := true, recurses := true, plainKeys := false, apart := false, narrowed := true }
def GreedyHoldsUptoSaid : Prop := greedyHoldsUptoRow.holds Try.pinned (OpenSpec.upto greedyHoldsSpec)

end Rows
end Go.Proofs.Ytngphgdoolcpcaa
