/-
  Reference 22: where a plan's sequences start, its size, its literals.
-/
import Derived.Test.YtiagbejfghincaaGreatX18
import Derived.Deep.QuietTactic
namespace Go.Port
open Go.RowKit
end Go.Port
namespace Go.Proofs.YtiagbejfghincaaGreat
open Go.RowKit Go.Port
theorem own_neT {w : World} {base sz n q : Nat} {e t : TypeId} {v : Value} {xs vs : List Value} (h : w.ownsRow base e sz v n xs) (hb : Blk w q vs t) (ht : t ≠ e) : some q ≠ v.ownBlock := fun e' => by
  obtain ⟨h1, h2⟩ := h
  rcases h2 with ⟨rfl, _⟩ | ⟨g, cap, cur, rfl, h3, h4, h5⟩
  · cases e'
  · simp only [Value.ownBlock, Option.some.injEq] at e'
    subst e'
    have := (show _ = _ from hb).symm.trans h4
    simp only [Option.some.injEq, Obj.cells.injEq] at this
    exact ht this.2.1
end Go.Proofs.YtiagbejfghincaaGreat
