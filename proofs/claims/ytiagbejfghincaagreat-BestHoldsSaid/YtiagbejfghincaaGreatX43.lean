/-
  Finders made, for every seat that makes finders.
-/
import Derived.Test.YtiagbejfghincaaGreatX28
import Derived.Test.YtiagbejfghincaaGreatX30
import Derived.Test.YtiagbejfghincaaGreatX42
namespace Go.Port
open Go.RowKit
theorem FdS.mono {B B' : Nat} {tf tix : TypeId} {bs : List UInt8} {A : Nat} {W D : Int} {F : Nat} {w : World} (h : FdS B tf tix bs A W D F w) (hB : B' ≤ B) : FdS B' tf tix bs A W D F w :=
  ⟨Nat.le_trans hB h.1, fun w' hs => h.2 w' fun k h1 h2 => hs k (Nat.le_trans hB h1) h2⟩
theorem CellsAt.of_const {w : World} {g : Nat} {bs : List UInt8} (hg : g < w.heap.size) (h : ∀ j u, (bs.map bv)[j]? = some u → w.cell? ⟨g, j, none⟩ = some u) : CellsAt w (some ⟨g, 0, none⟩) (bs.map bv) := fun j u hu => ⟨g, 0, rfl, hg, by rw [Nat.zero_add]; exact h j u hu⟩
end Go.Port
namespace Go.Port
open Go.RowKit
end Go.Port
