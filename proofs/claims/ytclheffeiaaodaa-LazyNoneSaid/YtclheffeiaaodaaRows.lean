/-
  No cell of these rows narrows 'for every input' (looked for: loops, veiled, ifaces, maps, wideKeys, modest, calm, conditions, laid).
  DERIVED. THE GIVEN ROWS OF THIS SEAT. 8 by the template 'for every input the law returns true; each argument reads behind the call as it read before'; 0 by the template 'total and deterministic' (their statements: YtclheffeiaaodaaTotals.lean).
  GIVEN WITH THE SEED: the statements are not yours to turn. If you find one false, say at which input.
  Laid BY PROGRAM, IN A SANDBOX (cutbox-rows.mjs): the forced cells as the released guide's own fill.sh prints them over the translation 7ba40db9289fbc08… (all of the seat's roots in one cut). By AI agents, Wed Nov 11 2026. No macro, syntax, notation, axiom, sorry.
-/
import Derived.Test.YtclheffeiaaodaaChecked
import GoSem.Claim
import GoSem.ClaimJoined
import GoSem.ClaimMapViews
import Derived.JoinedTies
import Derived.KernelRfl
namespace Go.Proofs.Ytclheffeiaaodaa
/- THE CELL 'sum', in the pinned program and in every row, IS THE sha256 OF THE DUMP (.gsa) THAT YtclheffeiaaodaaProg.lean LOADS. Nothing in Lean hashes anything: it is a label: what it is worth is what the hold of that sum in a sandbox is worth. -/
noncomputable def Try.pinned : Pinned := { name := "ytclheffeiaaodaa", sum := "7ba40db9289fbc08ed48a2f512960be064bd2a754c0d67c87436ecead9671de0", checked := Try.checked }
namespace Rows
def none {H : Type} : Left H := { results := [], args := [] }

/-- 'portmanteaulaw31.LazyLooks': WHATEVER THE INPUT: true; the input reads as it did. -/
def lazyLooksSpec : ChangeSpec := { name := "lazyLooks", fn := fun _ => fun
  | [d1, d2, d3, d4, d5] => { results := [.lit (.bool true)], args := [d1, d2, d3, d4, d5] }
  | _ => none }
def lazyLooksRow : OpenClaim := { program := "ytclheffeiaaodaa", sum := "7ba40db9289fbc08ed48a2f512960be064bd2a754c0d67c87436ecead9671de0", func := "portmanteau/portmanteaulaw31.LazyLooks", spec := "lazyLooks", unfollowed := true, recurses := true, plainKeys := false, apart := false }
def LazyLooksSaid : Prop := lazyLooksRow.holds Try.pinned (OpenSpec.ofChange lazyLooksSpec)

/-- ITS FALSE NEIGHBOUR: 'it returns false'. Refute it at one input. -/
def lazyLooksWrong : ChangeSpec := { name := "lazyLooks", fn := fun _ => fun
  | [d1, d2, d3, d4, d5] => { results := [.lit (.bool false)], args := [d1, d2, d3, d4, d5] }
  | _ => none }
def LazyLooksWrongFalsely : Prop := lazyLooksRow.holds Try.pinned (OpenSpec.ofChange lazyLooksWrong)

/-- 'portmanteaulaw31.LazyPrices': WHATEVER THE INPUT: true; the input reads as it did. -/
def lazyPricesSpec : ChangeSpec := { name := "lazyPrices", fn := fun _ => fun
  | [d1, d2, d3, d4, d5] => { results := [.lit (.bool true)], args := [d1, d2, d3, d4, d5] }
  | _ => none }
def lazyPricesRow : OpenClaim := { program := "ytclheffeiaaodaa", sum := "7ba40db9289fbc08ed48a2f512960be064bd2a754c0d67c87436ecead9671de0", func := "portmanteau/portmanteaulaw31.LazyPrices", spec := "lazyPrices", unfollowed := true, recurses := true, plainKeys := false, apart := false }
def LazyPricesSaid : Prop := lazyPricesRow.holds Try.pinned (OpenSpec.ofChange lazyPricesSpec)

/-- ITS FALSE NEIGHBOUR: 'it returns false'. Refute it at one input. -/
def lazyPricesWrong : ChangeSpec := { name := "lazyPrices", fn := fun _ => fun
  | [d1, d2, d3, d4, d5] => { results := [.lit (.bool false)], args := [d1, d2, d3, d4, d5] }
  | _ => none }
def LazyPricesWrongFalsely : Prop := lazyPricesRow.holds Try.pinned (OpenSpec.ofChange lazyPricesWrong)

/-- 'portmanteaulaw31.LazyFalls': WHATEVER THE INPUT: true; the input reads as it did. -/
def lazyFallsSpec : ChangeSpec := { name := "lazyFalls", fn := fun _ => fun
  | [d1, d2, d3, d4, d5] => { results := [.lit (.bool true)], args := [d1, d2, d3, d4, d5] }
  | _ => none }
def lazyFallsRow : OpenClaim := { program := "ytclheffeiaaodaa", sum := "7ba40db9289fbc08ed48a2f512960be064bd2a754c0d67c87436ecead9671de0", func := "portmanteau/portmanteaulaw31.LazyFalls", spec := "lazyFalls", unfollowed := true, recurses := true, plainKeys := false, apart := false }
def LazyFallsSaid : Prop := lazyFallsRow.holds Try.pinned (OpenSpec.ofChange lazyFallsSpec)

/-- ITS FALSE NEIGHBOUR: 'it returns false'. Refute it at one input. -/
def lazyFallsWrong : ChangeSpec := { name := "lazyFalls", fn := fun _ => fun
  | [d1, d2, d3, d4, d5] => { results := [.lit (.bool false)], args := [d1, d2, d3, d4, d5] }
  | _ => none }
def LazyFallsWrongFalsely : Prop := lazyFallsRow.holds Try.pinned (OpenSpec.ofChange lazyFallsWrong)

/-- 'portmanteaulaw31.LazyWaits': WHATEVER THE INPUT: true; the input reads as it did. -/
def lazyWaitsSpec : ChangeSpec := { name := "lazyWaits", fn := fun _ => fun
  | [d1, d2, d3, d4, d5] => { results := [.lit (.bool true)], args := [d1, d2, d3, d4, d5] }
  | _ => none }
def lazyWaitsRow : OpenClaim := { program := "ytclheffeiaaodaa", sum := "7ba40db9289fbc08ed48a2f512960be064bd2a754c0d67c87436ecead9671de0", func := "portmanteau/portmanteaulaw31.LazyWaits", spec := "lazyWaits", unfollowed := true, recurses := true, plainKeys := false, apart := false }
def LazyWaitsSaid : Prop := lazyWaitsRow.holds Try.pinned (OpenSpec.ofChange lazyWaitsSpec)

/-- ITS FALSE NEIGHBOUR: 'it returns false'. Refute it at one input. -/
def lazyWaitsWrong : ChangeSpec := { name := "lazyWaits", fn := fun _ => fun
  | [d1, d2, d3, d4, d5] => { results := [.lit (.bool false)], args := [d1, d2, d3, d4, d5] }
  | _ => none }
def LazyWaitsWrongFalsely : Prop := lazyWaitsRow.holds Try.pinned (OpenSpec.ofChange lazyWaitsWrong)

/-- 'portmanteaulaw31.LazyGreedy': WHATEVER THE INPUT: true; the input reads as it did. -/
def lazyGreedySpec : ChangeSpec := { name := "lazyGreedy", fn := fun _ => fun
  | [d1, d2, d3, d4] => { results := [.lit (.bool true)], args := [d1, d2, d3, d4] }
  | _ => none }
def lazyGreedyRow : OpenClaim := { program := "ytclheffeiaaodaa", sum := "7ba40db9289fbc08ed48a2f512960be064bd2a754c0d67c87436ecead9671de0", func := "portmanteau/portmanteaulaw31.LazyGreedy", spec := "lazyGreedy", unfollowed := true, recurses := true, plainKeys := false, apart := false }
def LazyGreedySaid : Prop := lazyGreedyRow.holds Try.pinned (OpenSpec.ofChange lazyGreedySpec)

/-- ITS FALSE NEIGHBOUR: 'it returns false'. Refute it at one input. -/
def lazyGreedyWrong : ChangeSpec := { name := "lazyGreedy", fn := fun _ => fun
  | [d1, d2, d3, d4] => { results := [.lit (.bool false)], args := [d1, d2, d3, d4] }
  | _ => none }
def LazyGreedyWrongFalsely : Prop := lazyGreedyRow.holds Try.pinned (OpenSpec.ofChange lazyGreedyWrong)

/-- 'portmanteaulaw31.LazySteps': WHATEVER THE INPUT: true; the input reads as it did. -/
def lazyStepsSpec : ChangeSpec := { name := "lazySteps", fn := fun _ => fun
  | [d1, d2, d3, d4, d5, d6] => { results := [.lit (.bool true)], args := [d1, d2, d3, d4, d5, d6] }
  | _ => none }
def lazyStepsRow : OpenClaim := { program := "ytclheffeiaaodaa", sum := "7ba40db9289fbc08ed48a2f512960be064bd2a754c0d67c87436ecead9671de0", func := "portmanteau/portmanteaulaw31.LazySteps", spec := "lazySteps", unfollowed := true, recurses := true, plainKeys := false, apart := false }
def LazyStepsSaid : Prop := lazyStepsRow.holds Try.pinned (OpenSpec.ofChange lazyStepsSpec)

/-- ITS FALSE NEIGHBOUR: 'it returns false'. Refute it at one input. -/
def lazyStepsWrong : ChangeSpec := { name := "lazySteps", fn := fun _ => fun
  | [d1, d2, d3, d4, d5, d6] => { results := [.lit (.bool false)], args := [d1, d2, d3, d4, d5, d6] }
  | _ => none }
def LazyStepsWrongFalsely : Prop := lazyStepsRow.holds Try.pinned (OpenSpec.ofChange lazyStepsWrong)

/-- 'portmanteaulaw31.LazyNone': WHATEVER THE INPUT: true; the input reads as it did. -/
def lazyNoneSpec : ChangeSpec := { name := "lazyNone", fn := fun _ => fun
  | [d1, d2] => { results := [.lit (.bool true)], args := [d1, d2] }
  | _ => none }
def lazyNoneRow : OpenClaim := { program := "ytclheffeiaaodaa", sum := "7ba40db9289fbc08ed48a2f512960be064bd2a754c0d67c87436ecead9671de0", func := "portmanteau/portmanteaulaw31.LazyNone", spec := "lazyNone", unfollowed := true, recurses := true, plainKeys := false, apart := false }
def LazyNoneSaid : Prop := lazyNoneRow.holds Try.pinned (OpenSpec.ofChange lazyNoneSpec)

/-- ITS FALSE NEIGHBOUR: 'it returns false'. Refute it at one input. -/
def lazyNoneWrong : ChangeSpec := { name := "lazyNone", fn := fun _ => fun
  | [d1, d2] => { results := [.lit (.bool false)], args := [d1, d2] }
  | _ => none }
def LazyNoneWrongFalsely : Prop := lazyNoneRow.holds Try.pinned (OpenSpec.ofChange lazyNoneWrong)

/-- 'portmanteaulaw31.LazyHolds': WHATEVER THE INPUT: true; the input reads as it did. -/
def lazyHoldsSpec : ChangeSpec := { name := "lazyHolds", fn := fun _ => fun
  | [d1, d2, d3, d4, d5] => { results := [.lit (.bool true)], args := [d1, d2, d3, d4, d5] }
  | _ => none }
def lazyHoldsRow : OpenClaim := { program := "ytclheffeiaaodaa", sum := "7ba40db9289fbc08ed48a2f512960be064bd2a754c0d67c87436ecead9671de0", func := "portmanteau/portmanteaulaw31.LazyHolds", spec := "lazyHolds", unfollowed := true, recurses := true, plainKeys := false, apart := false }
def LazyHoldsSaid : Prop := lazyHoldsRow.holds Try.pinned (OpenSpec.ofChange lazyHoldsSpec)

/-- ITS FALSE NEIGHBOUR: 'it returns false'. Refute it at one input. -/
def lazyHoldsWrong : ChangeSpec := { name := "lazyHolds", fn := fun _ => fun
  | [d1, d2, d3, d4, d5] => { results := [.lit (.bool false)], args := [d1, d2, d3, d4, d5] }
  | _ => none }
def LazyHoldsWrongFalsely : Prop := lazyHoldsRow.holds Try.pinned (OpenSpec.ofChange lazyHoldsWrong)

/- THE SECOND FORM. 'bulk': how many values and letters a reading holds, each counted each time it is reached (what is shared counts as often as it is met; a slice's spare places count too). A statement '..UptoSaid' is the law's where the arguments, and the package variables that the reading takes, are together of bulk at most 1048576: NARROWER than '..Said'. Prove '..Said' where nothing that the law and all that it calls make is longer than what came in: it says more and counts as full. Else prove '..UptoSaid'. A law counts once. -/
mutual
def uptoBulk {H : Type} : DataW H → Nat
  | .lit (.string bytes) => bytes.length + 1
  | .lit _ => 1
  | .nil => 1
  | .ptr d => uptoBulk d + 1
  | .slice elems spare => uptoBulkAll elems + uptoBulkAll spare + 1
  | .agg parts => uptoBulkAll parts + 1
  | .iface _ d => uptoBulk d + 1
  | .map entries => uptoBulkEntries entries + 1
  | .held _ => 1
def uptoBulkAll {H : Type} : List (DataW H) → Nat
  | [] => 0
  | d :: r => uptoBulk d + uptoBulkAll r
def uptoBulkEntries {H : Type} : List (Lit × DataW H) → Nat
  | [] => 0
  | x :: r => uptoBulkEntry x + uptoBulkEntries r
def uptoBulkEntry {H : Type} : Lit × DataW H → Nat
  | (.string bytes, d) => bytes.length + uptoBulk d + 1
  | (_, d) => uptoBulk d + 1
 end
def uptoSmall : (H : Type) → List (DataW H) → Bool := fun _ ds => decide (uptoBulkAll ds ≤ 1048576)
def OpenSpec.upto (s : _root_.Go.ChangeSpec) : _root_.Go.OpenSpec := { _root_.Go.OpenSpec.ofChange s with cond := some uptoSmall }

/-- 'portmanteaulaw31.LazyLooks', WHERE WHAT IT READS IS OF BULK AT MOST 1048576: true; the input reads as it did. -/
def lazyLooksUptoRow : OpenClaim := { program := "ytclheffeiaaodaa", sum := "7ba40db9289fbc08ed48a2f512960be064bd2a754c0d67c87436ecead9671de0", func := "portmanteau/portmanteaulaw31.LazyLooks", spec := "lazyLooks", unfollowed := true, recurses := true, plainKeys := false, apart := false, narrowed := true }
def LazyLooksUptoSaid : Prop := lazyLooksUptoRow.holds Try.pinned (OpenSpec.upto lazyLooksSpec)

/-- 'portmanteaulaw31.LazyPrices', WHERE WHAT IT READS IS OF BULK AT MOST 1048576: true; the input reads as it did. -/
def lazyPricesUptoRow : OpenClaim := { program := "ytclheffeiaaodaa", sum := "7ba40db9289fbc08ed48a2f512960be064bd2a754c0d67c87436ecead9671de0", func := "portmanteau/portmanteaulaw31.LazyPrices", spec := "lazyPrices", unfollowed := true, recurses := true, plainKeys := false, apart := false, narrowed := true }
def LazyPricesUptoSaid : Prop := lazyPricesUptoRow.holds Try.pinned (OpenSpec.upto lazyPricesSpec)

/-- 'portmanteaulaw31.LazyFalls', WHERE WHAT IT READS IS OF BULK AT MOST 1048576: true; the input reads as it did. -/
def lazyFallsUptoRow : OpenClaim := { program := "ytclheffeiaaodaa", sum := "7ba40db9289fbc08ed48a2f512960be064bd2a754c0d67c87436ecead9671de0", func := "portmanteau/portmanteaulaw31.LazyFalls", spec := "lazyFalls", unfollowed := true, recurses := true, plainKeys := false, apart := false, narrowed := true }
def LazyFallsUptoSaid : Prop := lazyFallsUptoRow.holds Try.pinned (OpenSpec.upto lazyFallsSpec)

/-- 'portmanteaulaw31.LazyWaits', WHERE WHAT IT READS IS OF BULK AT MOST 1048576: true; the input reads as it did. -/
def lazyWaitsUptoRow : OpenClaim := { program := "ytclheffeiaaodaa", sum := "7ba40db9289fbc08ed48a2f512960be064bd2a754c0d67c87436ecead9671de0", func := "portmanteau/portmanteaulaw31.LazyWaits", spec := "lazyWaits", unfollowed := true, recurses := true, plainKeys := false, apart := false, narrowed := true }
def LazyWaitsUptoSaid : Prop := lazyWaitsUptoRow.holds Try.pinned (OpenSpec.upto lazyWaitsSpec)

/-- 'portmanteaulaw31.LazyGreedy', WHERE WHAT IT READS IS OF BULK AT MOST 1048576: true; the input reads as it did. -/
def lazyGreedyUptoRow : OpenClaim := { program := "ytclheffeiaaodaa", sum := "7ba40db9289fbc08ed48a2f512960be064bd2a754c0d67c87436ecead9671de0", func := "portmanteau/portmanteaulaw31.LazyGreedy", spec := "lazyGreedy", unfollowed := true, recurses := true, plainKeys := false, apart := false, narrowed := true }
def LazyGreedyUptoSaid : Prop := lazyGreedyUptoRow.holds Try.pinned (OpenSpec.upto lazyGreedySpec)

/-- 'portmanteaulaw31.LazySteps', WHERE WHAT IT READS IS OF BULK AT MOST 1048576: true; the input reads as it did. -/
def lazyStepsUptoRow : OpenClaim := { program := "ytclheffeiaaodaa", sum := "7ba40db9289fbc08ed48a2f512960be064bd2a754c0d67c87436ecead9671de0", func := "portmanteau/portmanteaulaw31.LazySteps", spec := "lazySteps", unfollowed := true, recurses := true, plainKeys := false, apart := false, narrowed := true }
def LazyStepsUptoSaid : Prop := lazyStepsUptoRow.holds Try.pinned (OpenSpec.upto lazyStepsSpec)

/-- 'portmanteaulaw31.LazyNone', WHERE WHAT IT READS IS OF BULK AT MOST 1048576: true; the input reads as it did. -/
def lazyNoneUptoRow : OpenClaim := { program := "ytclheffeiaaodaa", sum := "7ba40db9289fbc08ed48a2f512960be064bd2a754c0d67c87436ecead9671de0", func := "portmanteau/portmanteaulaw31.LazyNone", spec := "lazyNone", unfollowed := true, recurses := true, plainKeys := false, apart := false, narrowed := true }
def LazyNoneUptoSaid : Prop := lazyNoneUptoRow.holds Try.pinned (OpenSpec.upto lazyNoneSpec)

/-- 'portmanteaulaw31.LazyHolds', WHERE WHAT IT READS IS OF BULK AT MOST 1048576: true; the input reads as it did. -/
def lazyHoldsUptoRow : OpenClaim := { program := "ytclheffeiaaodaa", sum := "7ba40db9289fbc08ed48a2f512960be064bd2a754c0d67c87436ecead9671de0", func := "portmanteau/portmanteaulaw31.LazyHolds", spec := "lazyHolds", unfollowed := true, recurses := true, plainKeys := false, apart := false, narrowed := true }
def LazyHoldsUptoSaid : Prop := lazyHoldsUptoRow.holds Try.pinned (OpenSpec.upto lazyHoldsSpec)

end Rows
end Go.Proofs.Ytclheffeiaaodaa
