/-
  Plain laws, for every seat: a region of open order whose operations read and whose callees leave what lay: one walk in the order of the text serves every order.
-/
import Derived.Test.YtngphgdoolcpcaaBase
namespace Go.Port
open Go.RowKit

/-- A world in which what lay below B lies as it lay. -/
structure LowOf (B : Nat) (w : World) where
  W : World
  below : Below B w W

instance (B : Nat) (w : World) : Inhabited (LowOf B w) := ⟨⟨w, Below.refl _ _⟩⟩

theorem wp_region_low {P : Program} {id : Nat} {Q : Exit → Act → World → Prop} {a : Act} {w : World} {l : List Oper} (B : Nat) (hm : P.follows .mixedOrders = true) (hB : Region.lexB .any l.toArray = true)
    (h : wpQuiet P l.toArray (fun w' => ∃ V : LowOf B w, w' = V.W) (fun a' => ∀ w', (∃ V : LowOf B w, w' = V.W) → Q .normal a' w') l a) : (Code.region id l.toArray true).wp P Q a w :=
  wp_region_quiet (C := fun w' => ∃ V : LowOf B w, w' = V.W) hm hB ⟨⟨_, below_drewN (Below.refl _ _) 1⟩, rfl⟩ (by simpa using h)

/-- A callee's contract. -/
theorem Calls.low_of {P : Program} {f : FuncId} {args : Array Value} {B : Nat} {w : World} (V : LowOf B w) {v : Value} (hB : B ≤ w.heap.size) (h : Calls P f args V.W (RetV V.W v)) :
    Calls P f args V.W fun e w'' => e = .returned v ∧ ∃ V' : LowOf B w, w'' = V'.W :=
  h.mono fun _ _ ⟨he, hb⟩ => ⟨he, ⟨⟨_, V.below.trans (hb.mono (Nat.le_trans hB V.below.size))⟩, rfl⟩⟩
theorem Calls.low_same {P : Program} {f : FuncId} {args : Array Value} {B : Nat} {w : World} (V : LowOf B w) {v : Value} (h : Calls P f args V.W fun e w' => e = .returned v ∧ V.W = w') :
    Calls P f args V.W fun e w'' => e = .returned v ∧ ∃ V' : LowOf B w, w'' = V'.W :=
  h.mono fun _ _ ⟨he, hb⟩ => ⟨he, ⟨V, hb.symm⟩⟩
theorem LowOf.cell {B : Nat} {w : World} {a : Addr} {v : Value} (h : w.cell? a = some v) (hb : a.block < B) (V : LowOf B w) : V.W.cell? a = some v := (V.below.cell hb).trans h
theorem Blk.newAt {W : World} {k : Nat} {vs : List Value} {t : TypeId} (h : k = W.heap.size) : Blk (W.alloc (.cells vs.toArray t)) k vs t := by
  subst h
  exact Blk.new W vs t

end Go.Port
