/-
  The walks of reference 32 (price), second part: Symbol, Lits, number, Count, Off, Len, Step.
-/
import Derived.Test.YtiagbejfghincaaGreatX20
namespace Go.Proofs.YtiagbejfghincaaGreat
open Go.RowKit Go.Port
/-- The reference's model. -/
structure RfAt (w : World) (A : Nat → Option Addr) (cp : Nat → Nat) (C : Nat → List Int) : Prop where
  four : FourAt w A cp C
  ok : ∀ k, k < 4 → HistOk k (C k)
theorem RfAt.low {w w' : World} {A : Nat → Option Addr} {cp : Nat → Nat} {C : Nat → List Int} (h : RfAt w A cp C) (hb : Below w.heap.size w w') : RfAt w' A cp C := ⟨h.four.low hb, h.ok⟩
/-- A number and an error. -/
def numV (o : Option Int) : Value := match o with
  | some x => .tuple #[.int .i64 x, .int .i64 0]
  | none => .tuple #[.int .i64 0, .int .i64 2]
end Go.Proofs.YtiagbejfghincaaGreat
