/-
  Plain laws of layer 28: sequences of machine integers; what Cost hands back.
  Plain laws of layer 30: the greedy plan as it is handed back; its steps; steps in memory.
-/
import Derived.Test.YtlgablepckmogaaGreatQ07
import Derived.Test.YtlgablepckmogaaGreatQ02
import Derived.Test.YtlgablepckmogaaGreatQ05
namespace Go.Port
open Go.RowKit
def InSq (s : Sq) : Prop := InI s.lit ∧ InI s.len ∧ InI s.off
def costR (o : Option Int) : Value := .tuple #[.int .i64 (o.getD 0), .int .i64 (if o.isSome then 0 else 15)]
end Go.Port
namespace Go.Port
open Go.RowKit
/-- A plan without its positions. -/
def seqs (l : List (Int × Sq)) : List Sq := l.map (·.2)
theorem seqs_append (l r : List (Int × Sq)) : seqs (l ++ r) = seqs l ++ seqs r := List.map_append
/-- The greedy plan, as the reference and the program hand it back. -/
def greedyP (bs : List UInt8) (A : Nat) (W D p least : Int) : List (Int × Sq) := planS (greedyA (findS bs A W D) least) ((bs.length : Int) - A) p p
def fromE (bs : List UInt8) (A : Nat) (p least : Int) : Int := if least < 3 then 2 else if p < 0 ∨ (bs.length : Int) - A < p then 21 else 0
def fromL (bs : List UInt8) (A : Nat) (W D p least : Int) : List (Int × Sq) := if fromE bs A p least = 0 then greedyP bs A W D p least else []
theorem fromL_length (bs : List UInt8) (A : Nat) (W D p least : Int) : (fromL bs A W D p least).length ≤ bs.length := by
  unfold fromL
  split
  · rename_i h
    have hp : 0 ≤ p := by
      unfold fromE at h
      split at h
      · cases h
      · split at h
        · cases h
        · omega
    have := planS_length (findS_ok (B := bs) (A := A) (W := W) (D := D) (least := least)) ((bs.length : Int) - A) ((bs.length : Int) - A - p).toNat p p (by omega)
    unfold greedyP
    omega
  · simp
end Go.Port
namespace Go.Port
open Go.RowKit
end Go.Port
namespace Go.Port
open Go.RowKit
theorem quiet_left3 {P : Program} {f : FuncId} {args : Array Value} {w : World} {m n : Nat} {v : Value}
    (h : Calls P f args (w.drewN (m + n)) fun e w' => e = .returned v ∧ ∃ k, w' = (w.drewN (m + n)).drewN k) : Calls P f args (w.drewN (m + n)) fun e w'' => e = .returned v ∧ ∃ k, w'' = w.drewN (m + k) :=
  h.mono fun _ _ ⟨he, k, hm⟩ => ⟨he, n + k, by rw [hm, World.drewN_drewN, Nat.add_assoc]⟩
theorem quiet_left0 {P : Program} {f : FuncId} {args : Array Value} {w : World} {n : Nat} {v : Value}
    (h : Calls P f args (w.drewN n) fun e w' => e = .returned v ∧ ∃ k, w' = (w.drewN n).drewN k) : Calls P f args (w.drewN n) fun e w'' => e = .returned v ∧ ∃ m, w'' = w.drewN m :=
  h.mono fun _ _ ⟨he, k, hm⟩ => ⟨he, n + k, by rw [hm, World.drewN_drewN]⟩
/-- A step: the position of a match, and the sequence. -/
def stc (x : Int × Sq) : List Value := [.int .i64 x.1, .int .i64 x.2.lit, .int .i64 x.2.len, .int .i64 x.2.off]
def stv (x : Int × Sq) : Value := .agg #[.int .i64 x.1, .int .i64 x.2.lit, .int .i64 x.2.len, .int .i64 x.2.off]
theorem grown_set {w w' : World} {row : Option Nat} (h : w.grownBy w' row) (a : Addr) (u : Value) (ha : row = some a.block ∨ w.heap.size ≤ a.block) : w.grownBy (w'.setCell a u) row :=
  ⟨h.os, h.tape, h.output, by simpa using h.size, fun k hk hne => (Below.heap_setCell w' a u k (by
    intro e
    rcases ha with ha | ha
    · exact hne (by rw [ha, e])
    · omega)).trans (h.block k hk hne)⟩
theorem grown_below {w w1 w2 : World} {row : Option Nat} (h : w.grownBy w1 row) (hb : Below w1.heap.size w1 w2) : w.grownBy w2 row :=
  ⟨hb.os.trans h.os, hb.tape.trans h.tape, hb.output.trans h.output, Nat.le_trans h.size hb.size, fun k hk hne => (hb.block k (Nat.lt_of_lt_of_le hk h.size)).trans (h.block k hk hne)⟩
end Go.Port
namespace Go.Port
open Go.RowKit
def encsP (x : Int × Sq) : Array Value := #[.int .i64 x.1, sqv x.2]
end Go.Port
