/-
  What lies as it lay, as the walks want it, for every seat.
-/
import Derived.Test.YtngphgdoolcpcaaBase
namespace Go.Port
open Go.RowKit
theorem at_same {w W : World} {a : Option Addr} {cs : List Value} (h : ∀ j u, cs[j]? = some u → ∃ bl off, a = some ⟨bl, off, none⟩ ∧ bl < w.heap.size ∧ w.cell? ⟨bl, off + j, none⟩ = some u) (hW : Below w.heap.size w W) :
    ∀ j u, cs[j]? = some u → ∃ bl off, a = some ⟨bl, off, none⟩ ∧ bl < W.heap.size ∧ W.cell? ⟨bl, off + j, none⟩ = some u := by
  intro j u hu
  obtain ⟨bl, off, h1, h2, h3⟩ := h j u hu
  exact ⟨bl, off, h1, Nat.lt_of_lt_of_le h2 hW.size, (hW.cell (p := ⟨bl, off + j, none⟩) h2).trans h3⟩
theorem ret_drew {P : Program} {f : FuncId} {args : Array Value} {w : World} {v : Value} (h : Calls P f args w fun e w' => e = .returned v ∧ ∃ m, w' = w.drewN m) : Calls P f args w (RetV w v) :=
  h.mono fun _ _ ⟨he, m, hm⟩ => ⟨he, by rw [hm]; exact below_drewN (Below.refl _ _) m⟩
end Go.Port
