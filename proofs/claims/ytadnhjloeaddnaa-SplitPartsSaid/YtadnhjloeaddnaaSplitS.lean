/-
  Plain laws on the cut points of least cost, as ints.
-/
import Derived.Test.YtadnhjloeaddnaaSplitR
namespace Go.Port
open Go.RowKit

theorem cutsS_ints (bs : List UInt8) (g m : Nat) (hg : 0 < g) (hgm : g ≤ m) :
    riseB bs.length 0 ((cutsS bs g m).map fun (x : Nat) => (x : Int)) = true ∧ mayB m bs.length 0 ((cutsS bs g m).map fun (x : Nat) => (x : Int)) = true ∧ (∀ d ∈ cutsS bs g m, d % g = 0) ∧
      worthGo bs 0 (((cutsS bs g m).map fun (x : Nat) => (x : Int)) ++ [(bs.length : Int)]) = (way bs g m (nPl bs.length g - 1)).2 := by
  obtain ⟨h1, h2, h3⟩ := ints_of_good bs g m (cutsS bs g m) 0 (cutsS_good bs g m hg hgm)
  refine ⟨h1, h2, h3, ?_⟩
  have h := worthGo_nat bs 0 (cutsS bs g m ++ [bs.length])
  rw [List.map_append] at h
  rw [← cutsS_cost bs g m hg hgm]
  exact h
theorem cutsS_length (bs : List UInt8) (g m : Nat) : (cutsS bs g m).length ≤ nPl bs.length g := by
  unfold cutsS
  rw [List.length_reverse]
  exact backGo_length _ _ _ _ _
end Go.Port
