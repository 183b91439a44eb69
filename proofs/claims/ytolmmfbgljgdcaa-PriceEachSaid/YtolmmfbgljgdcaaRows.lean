/-
  No cell of these rows narrows 'for every input' (looked for: loops, veiled, ifaces, maps, wideKeys, modest, calm, conditions, laid).
  DERIVED. THE GIVEN ROWS OF THIS SEAT. 7 by the template 'for every input the law returns true; each argument reads behind the call as it read before'; 0 by the template 'total and deterministic' (their statements: YtolmmfbgljgdcaaTotals.lean).
  GIVEN WITH THE SEED: the statements are not yours to turn. If you find one false, say at which input.
  Laid BY PROGRAM, IN A SANDBOX (cutbox-rows.mjs): the forced cells as the released guide's own fill.sh prints them over the translation 5956b2636f724d5c… (all of the seat's roots in one cut). By AI agents, Wed Nov 11 2026. No macro, syntax, notation, axiom, sorry.
-/
import Derived.Test.YtolmmfbgljgdcaaChecked
import GoSem.Claim
import GoSem.ClaimJoined
import GoSem.ClaimMapViews
import Derived.JoinedTies
import Derived.KernelRfl
namespace Go.Proofs.Ytolmmfbgljgdcaa
/- THE CELL 'sum', in the pinned program and in every row, IS THE sha256 OF THE DUMP (.gsa) THAT YtolmmfbgljgdcaaProg.lean LOADS. Nothing in Lean hashes anything: it is a label: what it is worth is what the hold of that sum in a sandbox is worth. -/
noncomputable def Try.pinned : Pinned := { name := "ytolmmfbgljgdcaa", sum := "5956b2636f724d5c7a41614af6d19ce13c8c66cd788bfd9b332de9ceeb493c58", checked := Try.checked }
namespace Rows
def none {H : Type} : Left H := { results := [], args := [] }

/-- 'portmanteaulaw32.PriceNews': WHATEVER THE INPUT: true; the input reads as it did. -/
def priceNewsSpec : ChangeSpec := { name := "priceNews", fn := fun _ => fun
  | [d1, d2] => { results := [.lit (.bool true)], args := [d1, d2] }
  | _ => none }
def priceNewsRow : OpenClaim := { program := "ytolmmfbgljgdcaa", sum := "5956b2636f724d5c7a41614af6d19ce13c8c66cd788bfd9b332de9ceeb493c58", func := "portmanteau/portmanteaulaw32.PriceNews", spec := "priceNews", unfollowed := true, recurses := true, apart := false }
def PriceNewsSaid : Prop := priceNewsRow.holds Try.pinned (OpenSpec.ofChange priceNewsSpec)

/-- ITS FALSE NEIGHBOUR: 'it returns false'. Refute it at one input. -/
def priceNewsWrong : ChangeSpec := { name := "priceNews", fn := fun _ => fun
  | [d1, d2] => { results := [.lit (.bool false)], args := [d1, d2] }
  | _ => none }
def PriceNewsWrongFalsely : Prop := priceNewsRow.holds Try.pinned (OpenSpec.ofChange priceNewsWrong)

/-- 'portmanteaulaw32.PriceCodes': WHATEVER THE INPUT: true; the input reads as it did. -/
def priceCodesSpec : ChangeSpec := { name := "priceCodes", fn := fun _ => fun
  | [d1, d2] => { results := [.lit (.bool true)], args := [d1, d2] }
  | _ => none }
def priceCodesRow : OpenClaim := { program := "ytolmmfbgljgdcaa", sum := "5956b2636f724d5c7a41614af6d19ce13c8c66cd788bfd9b332de9ceeb493c58", func := "portmanteau/portmanteaulaw32.PriceCodes", spec := "priceCodes", unfollowed := true, recurses := true, apart := false }
def PriceCodesSaid : Prop := priceCodesRow.holds Try.pinned (OpenSpec.ofChange priceCodesSpec)

/-- ITS FALSE NEIGHBOUR: 'it returns false'. Refute it at one input. -/
def priceCodesWrong : ChangeSpec := { name := "priceCodes", fn := fun _ => fun
  | [d1, d2] => { results := [.lit (.bool false)], args := [d1, d2] }
  | _ => none }
def PriceCodesWrongFalsely : Prop := priceCodesRow.holds Try.pinned (OpenSpec.ofChange priceCodesWrong)

/-- 'portmanteaulaw32.PriceSteps': WHATEVER THE INPUT: true; the input reads as it did. -/
def priceStepsSpec : ChangeSpec := { name := "priceSteps", fn := fun _ => fun
  | [d1, d2, d3] => { results := [.lit (.bool true)], args := [d1, d2, d3] }
  | _ => none }
def priceStepsRow : OpenClaim := { program := "ytolmmfbgljgdcaa", sum := "5956b2636f724d5c7a41614af6d19ce13c8c66cd788bfd9b332de9ceeb493c58", func := "portmanteau/portmanteaulaw32.PriceSteps", spec := "priceSteps", unfollowed := true, recurses := true, apart := false }
def PriceStepsSaid : Prop := priceStepsRow.holds Try.pinned (OpenSpec.ofChange priceStepsSpec)

/-- ITS FALSE NEIGHBOUR: 'it returns false'. Refute it at one input. -/
def priceStepsWrong : ChangeSpec := { name := "priceSteps", fn := fun _ => fun
  | [d1, d2, d3] => { results := [.lit (.bool false)], args := [d1, d2, d3] }
  | _ => none }
def PriceStepsWrongFalsely : Prop := priceStepsRow.holds Try.pinned (OpenSpec.ofChange priceStepsWrong)

/-- 'portmanteaulaw32.PriceOf': WHATEVER THE INPUT: true; the input reads as it did. -/
def priceOfSpec : ChangeSpec := { name := "priceOf", fn := fun _ => fun
  | [d1, d2, d3, d4] => { results := [.lit (.bool true)], args := [d1, d2, d3, d4] }
  | _ => none }
def priceOfRow : OpenClaim := { program := "ytolmmfbgljgdcaa", sum := "5956b2636f724d5c7a41614af6d19ce13c8c66cd788bfd9b332de9ceeb493c58", func := "portmanteau/portmanteaulaw32.PriceOf", spec := "priceOf", unfollowed := true, recurses := true, apart := false }
def PriceOfSaid : Prop := priceOfRow.holds Try.pinned (OpenSpec.ofChange priceOfSpec)

/-- ITS FALSE NEIGHBOUR: 'it returns false'. Refute it at one input. -/
def priceOfWrong : ChangeSpec := { name := "priceOf", fn := fun _ => fun
  | [d1, d2, d3, d4] => { results := [.lit (.bool false)], args := [d1, d2, d3, d4] }
  | _ => none }
def PriceOfWrongFalsely : Prop := priceOfRow.holds Try.pinned (OpenSpec.ofChange priceOfWrong)

/-- 'portmanteaulaw32.PriceHolds': WHATEVER THE INPUT: true; the input reads as it did. -/
def priceHoldsSpec : ChangeSpec := { name := "priceHolds", fn := fun _ => fun
  | [d1, d2, d3, d4, d5, d6] => { results := [.lit (.bool true)], args := [d1, d2, d3, d4, d5, d6] }
  | _ => none }
def priceHoldsRow : OpenClaim := { program := "ytolmmfbgljgdcaa", sum := "5956b2636f724d5c7a41614af6d19ce13c8c66cd788bfd9b332de9ceeb493c58", func := "portmanteau/portmanteaulaw32.PriceHolds", spec := "priceHolds", unfollowed := true, recurses := true, apart := false }
def PriceHoldsSaid : Prop := priceHoldsRow.holds Try.pinned (OpenSpec.ofChange priceHoldsSpec)

/-- ITS FALSE NEIGHBOUR: 'it returns false'. Refute it at one input. -/
def priceHoldsWrong : ChangeSpec := { name := "priceHolds", fn := fun _ => fun
  | [d1, d2, d3, d4, d5, d6] => { results := [.lit (.bool false)], args := [d1, d2, d3, d4, d5, d6] }
  | _ => none }
def PriceHoldsWrongFalsely : Prop := priceHoldsRow.holds Try.pinned (OpenSpec.ofChange priceHoldsWrong)

/-- 'portmanteaulaw32.PriceEach': WHATEVER THE INPUT: true; the input reads as it did. -/
def priceEachSpec : ChangeSpec := { name := "priceEach", fn := fun _ => fun
  | [d1, d2, d3] => { results := [.lit (.bool true)], args := [d1, d2, d3] }
  | _ => none }
def priceEachRow : OpenClaim := { program := "ytolmmfbgljgdcaa", sum := "5956b2636f724d5c7a41614af6d19ce13c8c66cd788bfd9b332de9ceeb493c58", func := "portmanteau/portmanteaulaw32.PriceEach", spec := "priceEach", unfollowed := true, recurses := true, apart := false }
def PriceEachSaid : Prop := priceEachRow.holds Try.pinned (OpenSpec.ofChange priceEachSpec)

/-- ITS FALSE NEIGHBOUR: 'it returns false'. Refute it at one input. -/
def priceEachWrong : ChangeSpec := { name := "priceEach", fn := fun _ => fun
  | [d1, d2, d3] => { results := [.lit (.bool false)], args := [d1, d2, d3] }
  | _ => none }
def PriceEachWrongFalsely : Prop := priceEachRow.holds Try.pinned (OpenSpec.ofChange priceEachWrong)

/-- 'portmanteaulaw32.PriceNone': WHATEVER THE INPUT: true; the input reads as it did. -/
def priceNoneSpec : ChangeSpec := { name := "priceNone", fn := fun _ => fun
  | [d1, d2, d3, d4] => { results := [.lit (.bool true)], args := [d1, d2, d3, d4] }
  | _ => none }
def priceNoneRow : OpenClaim := { program := "ytolmmfbgljgdcaa", sum := "5956b2636f724d5c7a41614af6d19ce13c8c66cd788bfd9b332de9ceeb493c58", func := "portmanteau/portmanteaulaw32.PriceNone", spec := "priceNone", unfollowed := true, recurses := true, apart := false }
def PriceNoneSaid : Prop := priceNoneRow.holds Try.pinned (OpenSpec.ofChange priceNoneSpec)

/-- ITS FALSE NEIGHBOUR: 'it returns false'. Refute it at one input. -/
def priceNoneWrong : ChangeSpec := { name := "priceNone", fn := fun _ => fun
  | [d1, d2, d3, d4] => { results := [.lit (.bool false)], args := [d1, d2, d3, d4] }
  | _ => none }
def PriceNoneWrongFalsely : Prop := priceNoneRow.holds Try.pinned (OpenSpec.ofChange priceNoneWrong)

/- THE SECOND FORM. 'bulk': how many values and letters a reading holds, each counted each time it is reached (what is shared counts as often as it is met; a slice's spare places count too). A statement '..UptoSaid' is the law's where the arguments, and the package variables that the reading takes, are together of bulk at most 1048576: NARROWER than '..Said'. Prove '..Said' where nothing that the law and all that it calls make is longer than what came in: it says more and counts as full. Else prove '..UptoSaid'. A law counts once. -/
mutual
def uptoBulk {H : Type} : DataW H → Nat
  | .lit (.string bytes) => bytes.length + 1
  | .lit _ => 1
  | .nil => 1
  | .ptr d => uptoBulk d + 1
  | .slice elems spare => uptoBulkAll elems + uptoBulkAll spare + 1
  | .agg parts => uptoBulkAll parts + 1
  | .iface _ d => uptoBulk d + 1
  | .map entries => uptoBulkEntries entries + 1
  | .held _ => 1
def uptoBulkAll {H : Type} : List (DataW H) → Nat
  | [] => 0
  | d :: r => uptoBulk d + uptoBulkAll r
def uptoBulkEntries {H : Type} : List (Lit × DataW H) → Nat
  | [] => 0
  | x :: r => uptoBulkEntry x + uptoBulkEntries r
def uptoBulkEntry {H : Type} : Lit × DataW H → Nat
  | (.string bytes, d) => bytes.length + uptoBulk d + 1
  | (_, d) => uptoBulk d + 1
 end
def uptoSmall : (H : Type) → List (DataW H) → Bool := fun _ ds => decide (uptoBulkAll ds ≤ 1048576)
def OpenSpec.upto (s : _root_.Go.ChangeSpec) : _root_.Go.OpenSpec := { _root_.Go.OpenSpec.ofChange s with cond := some uptoSmall }

/-- 'portmanteaulaw32.PriceNews', WHERE WHAT IT READS IS OF BULK AT MOST 1048576: true; the input reads as it did. -/
def priceNewsUptoRow : OpenClaim := { program := "ytolmmfbgljgdcaa", sum := "5956b2636f724d5c7a41614af6d19ce13c8c66cd788bfd9b332de9ceeb493c58", func := "portmanteau/portmanteaulaw32.PriceNews", spec := "priceNews", unfollowed := true, recurses := true, apart := false, narrowed := true }
def PriceNewsUptoSaid : Prop := priceNewsUptoRow.holds Try.pinned (OpenSpec.upto priceNewsSpec)

/-- 'portmanteaulaw32.PriceCodes', WHERE WHAT IT READS IS OF BULK AT MOST 1048576: true; the input reads as it did. -/
def priceCodesUptoRow : OpenClaim := { program := "ytolmmfbgljgdcaa", sum := "5956b2636f724d5c7a41614af6d19ce13c8c66cd788bfd9b332de9ceeb493c58", func := "portmanteau/portmanteaulaw32.PriceCodes", spec := "priceCodes", unfollowed := true, recurses := true, apart := false, narrowed := true }
def PriceCodesUptoSaid : Prop := priceCodesUptoRow.holds Try.pinned (OpenSpec.upto priceCodesSpec)

/-- 'portmanteaulaw32.PriceSteps', WHERE WHAT IT READS IS OF BULK AT MOST 1048576: true; the input reads as it did. -/
def priceStepsUptoRow : OpenClaim := { program := "ytolmmfbgljgdcaa", sum := "5956b2636f724d5c7a41614af6d19ce13c8c66cd788bfd9b332de9ceeb493c58", func := "portmanteau/portmanteaulaw32.PriceSteps", spec := "priceSteps", unfollowed := true, recurses := true, apart := false, narrowed := true }
def PriceStepsUptoSaid : Prop := priceStepsUptoRow.holds Try.pinned (OpenSpec.upto priceStepsSpec)

/-- 'portmanteaulaw32.PriceOf', WHERE WHAT IT READS IS OF BULK AT MOST 1048576: true; the input reads as it did. -/
def priceOfUptoRow : OpenClaim := { program := "ytolmmfbgljgdcaa", sum := "5956b2636f724d5c7a41614af6d19ce13c8c66cd788bfd9b332de9ceeb493c58", func := "portmanteau/portmanteaulaw32.PriceOf", spec := "priceOf", unfollowed := true, recurses := true, apart := false, narrowed := true }
def PriceOfUptoSaid : Prop := priceOfUptoRow.holds Try.pinned (OpenSpec.upto priceOfSpec)

/-- 'portmanteaulaw32.PriceHolds', WHERE WHAT IT READS IS OF BULK AT MOST 1048576: true; the input reads as it did. -/
def priceHoldsUptoRow : OpenClaim := { program := "ytolmmfbgljgdcaa", sum := "5956b2636f724d5c7a41614af6d19ce13c8c66cd788bfd9b332de9ceeb493c58", func := "portmanteau/portmanteaulaw32.PriceHolds", spec := "priceHolds", unfollowed := true, recurses := true, apart := false, narrowed := true }
def PriceHoldsUptoSaid : Prop := priceHoldsUptoRow.holds Try.pinned (OpenSpec.upto priceHoldsSpec)

/-- 'portmanteaulaw32.PriceEach', WHERE WHAT IT READS IS OF BULK AT MOST 1048576: true; the input reads as it did. -/
def priceEachUptoRow : OpenClaim := { program := "ytolmmfbgljgdcaa", sum := "5956b2636f724d5c7a41614af6d19ce13c8c66cd788bfd9b332de9ceeb493c58", func := "portmanteau/portmanteaulaw32.PriceEach", spec := "priceEach", unfollowed := true, recurses := true, apart := false, narrowed := true }
def PriceEachUptoSaid : Prop := priceEachUptoRow.holds Try.pinned (OpenSpec.upto priceEachSpec)

/-- 'portmanteaulaw32.PriceNone', WHERE WHAT IT READS IS OF BULK AT MOST 1048576: true; the input reads as it did. -/
def priceNoneUptoRow : OpenClaim := { program := "ytolmmfbgljgdcaa", sum := "5956b2636f724d5c7a41614af6d19ce13c8c66cd788bfd9b332de9ceeb493c58", func := "portmanteau/portmanteaulaw32.PriceNone", spec := "priceNone", unfollowed := true, recurses := true, apart := false, narrowed := true }
def PriceNoneUptoSaid : Prop := priceNoneUptoRow.holds Try.pinned (OpenSpec.upto priceNoneSpec)

end Rows
end Go.Proofs.Ytolmmfbgljgdcaa
