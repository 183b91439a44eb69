/-
  No cell of these rows narrows 'for every input' (looked for: loops, veiled, ifaces, maps, wideKeys, modest, calm, conditions, laid).
  DERIVED. THE GIVEN ROWS OF THIS SEAT. 7 by the template 'for every input the law returns true; each argument reads behind the call as it read before'; 0 by the template 'total and deterministic' (their statements: YtnmicfheekpnfaaTotals.lean).
  GIVEN WITH THE SEED: the statements are not yours to turn. If you find one false, say at which input.
  Laid BY PROGRAM, IN A SANDBOX (cutbox-rows.mjs): the forced cells as the released guide's own fill.sh prints them over the translation 102cac2f080d1eab… (all of the seat's roots in one cut). By AI agents, Wed Nov 11 2026. No macro, syntax, notation, axiom, sorry.
-/
import Derived.Test.YtnmicfheekpnfaaChecked
import GoSem.Claim
import GoSem.ClaimJoined
import GoSem.ClaimMapViews
import Derived.JoinedTies
import Derived.KernelRfl
namespace Go.Proofs.Ytnmicfheekpnfaa
/- THE CELL 'sum', in the pinned program and in every row, IS THE sha256 OF THE DUMP (.gsa) THAT YtnmicfheekpnfaaProg.lean LOADS. Nothing in Lean hashes anything: it is a label: what it is worth is what the hold of that sum in a sandbox is worth. -/
noncomputable def Try.pinned : Pinned := { name := "ytnmicfheekpnfaa", sum := "102cac2f080d1eab22832703c59339ea0c6deb24f3ecf09a9de31beb4e8b9e5a", checked := Try.checked }
namespace Rows
def none {H : Type} : Left H := { results := [], args := [] }

/-- 'portmanteaulaw29.ChainsFind': WHATEVER THE INPUT: true; the input reads as it did. -/
def chainsFindSpec : ChangeSpec := { name := "chainsFind", fn := fun _ => fun
  | [d1, d2, d3, d4] => { results := [.lit (.bool true)], args := [d1, d2, d3, d4] }
  | _ => none }
def chainsFindRow : OpenClaim := { program := "ytnmicfheekpnfaa", sum := "102cac2f080d1eab22832703c59339ea0c6deb24f3ecf09a9de31beb4e8b9e5a", func := "portmanteau/portmanteaulaw29.ChainsFind", spec := "chainsFind", unfollowed := true, recurses := true, plainKeys := false, apart := false }
def ChainsFindSaid : Prop := chainsFindRow.holds Try.pinned (OpenSpec.ofChange chainsFindSpec)

/-- ITS FALSE NEIGHBOUR: 'it returns false'. Refute it at one input. -/
def chainsFindWrong : ChangeSpec := { name := "chainsFind", fn := fun _ => fun
  | [d1, d2, d3, d4] => { results := [.lit (.bool false)], args := [d1, d2, d3, d4] }
  | _ => none }
def ChainsFindWrongFalsely : Prop := chainsFindRow.holds Try.pinned (OpenSpec.ofChange chainsFindWrong)

/-- 'portmanteaulaw29.ChainsPlaces': WHATEVER THE INPUT: true; the input reads as it did. -/
def chainsPlacesSpec : ChangeSpec := { name := "chainsPlaces", fn := fun _ => fun
  | [d1, d2, d3, d4, d5] => { results := [.lit (.bool true)], args := [d1, d2, d3, d4, d5] }
  | _ => none }
def chainsPlacesRow : OpenClaim := { program := "ytnmicfheekpnfaa", sum := "102cac2f080d1eab22832703c59339ea0c6deb24f3ecf09a9de31beb4e8b9e5a", func := "portmanteau/portmanteaulaw29.ChainsPlaces", spec := "chainsPlaces", unfollowed := true, recurses := true, plainKeys := false, apart := false }
def ChainsPlacesSaid : Prop := chainsPlacesRow.holds Try.pinned (OpenSpec.ofChange chainsPlacesSpec)

/-- ITS FALSE NEIGHBOUR: 'it returns false'. Refute it at one input. -/
def chainsPlacesWrong : ChangeSpec := { name := "chainsPlaces", fn := fun _ => fun
  | [d1, d2, d3, d4, d5] => { results := [.lit (.bool false)], args := [d1, d2, d3, d4, d5] }
  | _ => none }
def ChainsPlacesWrongFalsely : Prop := chainsPlacesRow.holds Try.pinned (OpenSpec.ofChange chainsPlacesWrong)

/-- 'portmanteaulaw29.ChainsGo': WHATEVER THE INPUT: true; the input reads as it did. -/
def chainsGoSpec : ChangeSpec := { name := "chainsGo", fn := fun _ => fun
  | [d1, d2, d3, d4, d5, d6] => { results := [.lit (.bool true)], args := [d1, d2, d3, d4, d5, d6] }
  | _ => none }
def chainsGoRow : OpenClaim := { program := "ytnmicfheekpnfaa", sum := "102cac2f080d1eab22832703c59339ea0c6deb24f3ecf09a9de31beb4e8b9e5a", func := "portmanteau/portmanteaulaw29.ChainsGo", spec := "chainsGo", unfollowed := true, recurses := true, plainKeys := false, apart := false }
def ChainsGoSaid : Prop := chainsGoRow.holds Try.pinned (OpenSpec.ofChange chainsGoSpec)

/-- ITS FALSE NEIGHBOUR: 'it returns false'. Refute it at one input. -/
def chainsGoWrong : ChangeSpec := { name := "chainsGo", fn := fun _ => fun
  | [d1, d2, d3, d4, d5, d6] => { results := [.lit (.bool false)], args := [d1, d2, d3, d4, d5, d6] }
  | _ => none }
def ChainsGoWrongFalsely : Prop := chainsGoRow.holds Try.pinned (OpenSpec.ofChange chainsGoWrong)

/-- 'portmanteaulaw29.ChainsBounds': WHATEVER THE INPUT: true; the input reads as it did. -/
def chainsBoundsSpec : ChangeSpec := { name := "chainsBounds", fn := fun _ => fun
  | [d1, d2] => { results := [.lit (.bool true)], args := [d1, d2] }
  | _ => none }
def chainsBoundsRow : OpenClaim := { program := "ytnmicfheekpnfaa", sum := "102cac2f080d1eab22832703c59339ea0c6deb24f3ecf09a9de31beb4e8b9e5a", func := "portmanteau/portmanteaulaw29.ChainsBounds", spec := "chainsBounds", unfollowed := true, recurses := true, plainKeys := false, apart := false }
def ChainsBoundsSaid : Prop := chainsBoundsRow.holds Try.pinned (OpenSpec.ofChange chainsBoundsSpec)

/-- ITS FALSE NEIGHBOUR: 'it returns false'. Refute it at one input. -/
def chainsBoundsWrong : ChangeSpec := { name := "chainsBounds", fn := fun _ => fun
  | [d1, d2] => { results := [.lit (.bool false)], args := [d1, d2] }
  | _ => none }
def ChainsBoundsWrongFalsely : Prop := chainsBoundsRow.holds Try.pinned (OpenSpec.ofChange chainsBoundsWrong)

/-- 'portmanteaulaw29.ChainsMore': WHATEVER THE INPUT: true; the input reads as it did. -/
def chainsMoreSpec : ChangeSpec := { name := "chainsMore", fn := fun _ => fun
  | [d1, d2, d3, d4, d5, d6, d7] => { results := [.lit (.bool true)], args := [d1, d2, d3, d4, d5, d6, d7] }
  | _ => none }
def chainsMoreRow : OpenClaim := { program := "ytnmicfheekpnfaa", sum := "102cac2f080d1eab22832703c59339ea0c6deb24f3ecf09a9de31beb4e8b9e5a", func := "portmanteau/portmanteaulaw29.ChainsMore", spec := "chainsMore", unfollowed := true, recurses := true, plainKeys := false, apart := false }
def ChainsMoreSaid : Prop := chainsMoreRow.holds Try.pinned (OpenSpec.ofChange chainsMoreSpec)

/-- ITS FALSE NEIGHBOUR: 'it returns false'. Refute it at one input. -/
def chainsMoreWrong : ChangeSpec := { name := "chainsMore", fn := fun _ => fun
  | [d1, d2, d3, d4, d5, d6, d7] => { results := [.lit (.bool false)], args := [d1, d2, d3, d4, d5, d6, d7] }
  | _ => none }
def ChainsMoreWrongFalsely : Prop := chainsMoreRow.holds Try.pinned (OpenSpec.ofChange chainsMoreWrong)

/-- 'portmanteaulaw29.ChainsMake': WHATEVER THE INPUT: true; the input reads as it did. -/
def chainsMakeSpec : ChangeSpec := { name := "chainsMake", fn := fun _ => fun
  | [d1, d2, d3, d4] => { results := [.lit (.bool true)], args := [d1, d2, d3, d4] }
  | _ => none }
def chainsMakeRow : OpenClaim := { program := "ytnmicfheekpnfaa", sum := "102cac2f080d1eab22832703c59339ea0c6deb24f3ecf09a9de31beb4e8b9e5a", func := "portmanteau/portmanteaulaw29.ChainsMake", spec := "chainsMake", unfollowed := true, recurses := true, plainKeys := false, apart := false }
def ChainsMakeSaid : Prop := chainsMakeRow.holds Try.pinned (OpenSpec.ofChange chainsMakeSpec)

/-- ITS FALSE NEIGHBOUR: 'it returns false'. Refute it at one input. -/
def chainsMakeWrong : ChangeSpec := { name := "chainsMake", fn := fun _ => fun
  | [d1, d2, d3, d4] => { results := [.lit (.bool false)], args := [d1, d2, d3, d4] }
  | _ => none }
def ChainsMakeWrongFalsely : Prop := chainsMakeRow.holds Try.pinned (OpenSpec.ofChange chainsMakeWrong)

/-- 'portmanteaulaw29.ChainsHold': WHATEVER THE INPUT: true; the input reads as it did. -/
def chainsHoldSpec : ChangeSpec := { name := "chainsHold", fn := fun _ => fun
  | [d1, d2, d3, d4, d5, d6] => { results := [.lit (.bool true)], args := [d1, d2, d3, d4, d5, d6] }
  | _ => none }
def chainsHoldRow : OpenClaim := { program := "ytnmicfheekpnfaa", sum := "102cac2f080d1eab22832703c59339ea0c6deb24f3ecf09a9de31beb4e8b9e5a", func := "portmanteau/portmanteaulaw29.ChainsHold", spec := "chainsHold", unfollowed := true, recurses := true, plainKeys := false, apart := false }
def ChainsHoldSaid : Prop := chainsHoldRow.holds Try.pinned (OpenSpec.ofChange chainsHoldSpec)

/-- ITS FALSE NEIGHBOUR: 'it returns false'. Refute it at one input. -/
def chainsHoldWrong : ChangeSpec := { name := "chainsHold", fn := fun _ => fun
  | [d1, d2, d3, d4, d5, d6] => { results := [.lit (.bool false)], args := [d1, d2, d3, d4, d5, d6] }
  | _ => none }
def ChainsHoldWrongFalsely : Prop := chainsHoldRow.holds Try.pinned (OpenSpec.ofChange chainsHoldWrong)

/- THE SECOND FORM. 'bulk': how many values and letters a reading holds, each counted each time it is reached (what is shared counts as often as it is met; a slice's spare places count too). A statement '..UptoSaid' is the law's where the arguments, and the package variables that the reading takes, are together of bulk at most 1048576: NARROWER than '..Said'. Prove '..Said' where nothing that the law and all that it calls make is longer than what came in: it says more and counts as full. Else prove '..UptoSaid'. A law counts once. -/
mutual
def uptoBulk {H : Type} : DataW H → Nat
  | .lit (.string bytes) => bytes.length + 1
  | .lit _ => 1
  | .nil => 1
  | .ptr d => uptoBulk d + 1
  | .slice elems spare => uptoBulkAll elems + uptoBulkAll spare + 1
  | .agg parts => uptoBulkAll parts + 1
  | .iface _ d => uptoBulk d + 1
  | .map entries => uptoBulkEntries entries + 1
  | .held _ => 1
def uptoBulkAll {H : Type} : List (DataW H) → Nat
  | [] => 0
  | d :: r => uptoBulk d + uptoBulkAll r
def uptoBulkEntries {H : Type} : List (Lit × DataW H) → Nat
  | [] => 0
  | x :: r => uptoBulkEntry x + uptoBulkEntries r
def uptoBulkEntry {H : Type} : Lit × DataW H → Nat
  | (.string bytes, d) => bytes.length + uptoBulk d + 1
  | (_, d) => uptoBulk d + 1
 end
def uptoSmall : (H : Type) → List (DataW H) → Bool := fun _ ds => decide (uptoBulkAll ds ≤ 1048576)
def OpenSpec.upto (s : _root_.Go.ChangeSpec) : _root_.Go.OpenSpec := { _root_.Go.OpenSpec.ofChange s with cond := some uptoSmall }

/-- 'portmanteaulaw29.ChainsFind', WHERE WHAT IT READS IS OF BULK AT MOST 1048576: true; the input reads as it did. -/
def chainsFindUptoRow : OpenClaim := { program := "ytnmicfheekpnfaa", sum := "102cac2f080d1eab22832703c59339ea0c6deb24f3ecf09a9de31beb4e8b9e5a", func := "portmanteau/portmanteaulaw29.ChainsFind", spec := "chainsFind", unfollowed := true, recurses := true, plainKeys := false, apart := false, narrowed := true }
def ChainsFindUptoSaid : Prop := chainsFindUptoRow.holds Try.pinned (OpenSpec.upto chainsFindSpec)

/-- 'portmanteaulaw29.ChainsPlaces', WHERE WHAT IT READS IS OF BULK AT MOST 1048576: true; the input reads as it did. -/
def chainsPlacesUptoRow : OpenClaim := { program := "ytnmicfheekpnfaa", sum := "102cac2f080d1eab22832703c59339ea0c6deb24f3ecf09a9de31beb4e8b9e5a", func := "portmanteau/portmanteaulaw29.ChainsPlaces", spec := "chainsPlaces", unfollowed := true, recurses := true, plainKeys := false, apart := false, narrowed := true }
def ChainsPlacesUptoSaid : Prop := chainsPlacesUptoRow.holds Try.pinned (OpenSpec.upto chainsPlacesSpec)

/-- 'portmanteaulaw29.ChainsGo', WHERE WHAT IT READS IS OF BULK AT MOST 1048576: true; the input reads as it did. -/
def chainsGoUptoRow : OpenClaim := { program := "ytnmicfheekpnfaa", sum := "102cac2f080d1eab22832703c59339ea0c6deb24f3ecf09a9de31beb4e8b9e5a", func := "portmanteau/portmanteaulaw29.ChainsGo", spec := "chainsGo", unfollowed := true, recurses := true, plainKeys := false, apart := false, narrowed := true }
def ChainsGoUptoSaid : Prop := chainsGoUptoRow.holds Try.pinned (OpenSpec.upto chainsGoSpec)

/-- 'portmanteaulaw29.ChainsBounds', WHERE WHAT IT READS IS OF BULK AT MOST 1048576: true; the input reads as it did. -/
def chainsBoundsUptoRow : OpenClaim := { program := "ytnmicfheekpnfaa", sum := "102cac2f080d1eab22832703c59339ea0c6deb24f3ecf09a9de31beb4e8b9e5a", func := "portmanteau/portmanteaulaw29.ChainsBounds", spec := "chainsBounds", unfollowed := true, recurses := true, plainKeys := false, apart := false, narrowed := true }
def ChainsBoundsUptoSaid : Prop := chainsBoundsUptoRow.holds Try.pinned (OpenSpec.upto chainsBoundsSpec)

/-- 'portmanteaulaw29.ChainsMore', WHERE WHAT IT READS IS OF BULK AT MOST 1048576: true; the input reads as it did. -/
def chainsMoreUptoRow : OpenClaim := { program := "ytnmicfheekpnfaa", sum := "102cac2f080d1eab22832703c59339ea0c6deb24f3ecf09a9de31beb4e8b9e5a", func := "portmanteau/portmanteaulaw29.ChainsMore", spec := "chainsMore", unfollowed := true, recurses := true, plainKeys := false, apart := false, narrowed := true }
def ChainsMoreUptoSaid : Prop := chainsMoreUptoRow.holds Try.pinned (OpenSpec.upto chainsMoreSpec)

/-- 'portmanteaulaw29.ChainsMake', WHERE WHAT IT READS IS OF BULK AT MOST 1048576: true; the input reads as it did. -/
def chainsMakeUptoRow : OpenClaim := { program := "ytnmicfheekpnfaa", sum := "102cac2f080d1eab22832703c59339ea0c6deb24f3ecf09a9de31beb4e8b9e5a", func := "portmanteau/portmanteaulaw29.ChainsMake", spec := "chainsMake", unfollowed := true, recurses := true, plainKeys := false, apart := false, narrowed := true }
def ChainsMakeUptoSaid : Prop := chainsMakeUptoRow.holds Try.pinned (OpenSpec.upto chainsMakeSpec)

/-- 'portmanteaulaw29.ChainsHold', WHERE WHAT IT READS IS OF BULK AT MOST 1048576: true; the input reads as it did. -/
def chainsHoldUptoRow : OpenClaim := { program := "ytnmicfheekpnfaa", sum := "102cac2f080d1eab22832703c59339ea0c6deb24f3ecf09a9de31beb4e8b9e5a", func := "portmanteau/portmanteaulaw29.ChainsHold", spec := "chainsHold", unfollowed := true, recurses := true, plainKeys := false, apart := false, narrowed := true }
def ChainsHoldUptoSaid : Prop := chainsHoldUptoRow.holds Try.pinned (OpenSpec.upto chainsHoldSpec)

end Rows
end Go.Proofs.Ytnmicfheekpnfaa
