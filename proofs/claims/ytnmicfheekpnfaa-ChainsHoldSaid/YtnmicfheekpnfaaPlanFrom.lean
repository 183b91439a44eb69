/-
  Plain laws of layer 30: the greedy plan as it is handed back; its steps; steps in memory.
-/
import Derived.Test.YtnmicfheekpnfaaPlanAll
import Derived.Test.YtnmicfheekpnfaaIx
import Derived.Test.YtnmicfheekpnfaaMaPlain
namespace Go.Port
open Go.RowKit
/-- A plan without its positions. -/
def seqs (l : List (Int × Sq)) : List Sq := l.map (·.2)
theorem seqs_append (l r : List (Int × Sq)) : seqs (l ++ r) = seqs l ++ seqs r := List.map_append
/-- The greedy plan, as the reference and the program hand it back. -/
def greedyP (bs : List UInt8) (A : Nat) (W D p least : Int) : List (Int × Sq) := planS (greedyA (findS bs A W D) least) ((bs.length : Int) - A) p p
def fromE (bs : List UInt8) (A : Nat) (p least : Int) : Int := if least < 3 then 2 else if p < 0 ∨ (bs.length : Int) - A < p then 21 else 0
def fromL (bs : List UInt8) (A : Nat) (W D p least : Int) : List (Int × Sq) := if fromE bs A p least = 0 then greedyP bs A W D p least else []
theorem fromL_length (bs : List UInt8) (A : Nat) (W D p least : Int) : (fromL bs A W D p least).length ≤ bs.length := by
  unfold fromL
  split
  · rename_i h
    have hp : 0 ≤ p := by
      unfold fromE at h
      split at h
      · cases h
      · split at h
        · cases h
        · omega
    have := planS_length (findS_ok (B := bs) (A := A) (W := W) (D := D) (least := least)) ((bs.length : Int) - A) ((bs.length : Int) - A - p).toNat p p (by omega)
    unfold greedyP
    omega
  · simp
/-- Every match of a plan is the one found, with its literals. -/
theorem planS_mem {act : Int → Mv} (hm : MvOk act) (size : Int) : ∀ (k : Nat) (p frm : Int) (x : Int × Sq), size - p ≤ k → frm ≤ p → x ∈ planS act size p frm → p ≤ x.1 ∧ x.1 < size ∧ ∃ s lit, act x.1 = .take s ∧ x.2 = ⟨lit, s.len, s.off⟩ ∧ 0 ≤ lit ∧ lit ≤ x.1 - frm := by
  intro k
  induction k with
  | zero => intro p frm x h _ hx; rw [planS_end act frm (by omega)] at hx; cases hx
  | succ k ih =>
    intro p frm x h hf hx
    by_cases hp : p < size
    · cases e : act p with
      | go n =>
        have := (hm p).1 n e
        rw [planS_go hm frm hp e] at hx
        obtain ⟨h1, h2, h3⟩ := ih n frm x (by omega) (by omega) hx
        exact ⟨by omega, h2, h3⟩
      | take s =>
        have := (hm p).2 s e
        rw [planS_take hm frm hp e] at hx
        rcases List.mem_cons.1 hx with rfl | hx
        · exact ⟨Int.le_refl _, hp, s, p - frm, e, rfl, by omega, Int.le_refl _⟩
        · obtain ⟨h1, h2, s', lit, h3, h4, h5, h6⟩ := ih (p + s.len) (p + s.len) x (by omega) (by omega) hx
          exact ⟨by omega, h2, s', lit, h3, h4, h5, by omega⟩
    · rw [planS_end act frm (by omega)] at hx; cases hx
end Go.Port
namespace Go.Port
open Go.RowKit
theorem sqv_beq (x y : Sq) : (x = y) ↔ (x.lit = y.lit ∧ x.len = y.len ∧ x.off = y.off) := by
  cases x; cases y; simp
theorem seqs_in {bs : List UInt8} {A : Nat} {W D p least : Int} (hb : bs.length ≤ 1000000) (hW : W ≤ 134217728) : ∀ s ∈ seqs (fromL bs A W D p least), InSq s := by
  intro s hs
  obtain ⟨x, hx, rfl⟩ := List.mem_map.1 hs
  unfold fromL at hx
  split at hx
  · rename_i h
    unfold greedyP at hx
    have hp : 0 ≤ p := by
      unfold fromE at h
      split at h
      · cases h
      · split at h
        · cases h
        · omega
    obtain ⟨h1, h2, s', lit, h3, h4, h5, h6⟩ := planS_mem (findS_ok (B := bs) (A := A) (W := W) (D := D) (least := least)) ((bs.length : Int) - A) _ p p x (by exact Int.self_le_toNat _) (Int.le_refl _) hx
    have hf : findS bs A W D x.1 = some s' := by
      unfold greedyA at h3
      cases hf : findS bs A W D x.1 with
      | none => rw [hf] at h3; simp at h3
      | some t =>
        rw [hf] at h3
        simp only at h3
        split at h3
        · simp at h3
        · simp only [Mv.take.injEq] at h3; rw [h3]
    have := findS_form hf
    rw [h4]
    refine ⟨⟨?_, ?_⟩, ⟨?_, ?_⟩, ⟨?_, ?_⟩⟩ <;> simp only <;> omega
  · cases hx
end Go.Port
namespace Go.Port
open Go.RowKit
theorem quiet_left3 {P : Program} {f : FuncId} {args : Array Value} {w : World} {m n : Nat} {v : Value}
    (h : Calls P f args (w.drewN (m + n)) fun e w' => e = .returned v ∧ ∃ k, w' = (w.drewN (m + n)).drewN k) : Calls P f args (w.drewN (m + n)) fun e w'' => e = .returned v ∧ ∃ k, w'' = w.drewN (m + k) :=
  h.mono fun _ _ ⟨he, k, hm⟩ => ⟨he, n + k, by rw [hm, World.drewN_drewN, Nat.add_assoc]⟩
theorem quiet_left0 {P : Program} {f : FuncId} {args : Array Value} {w : World} {n : Nat} {v : Value}
    (h : Calls P f args (w.drewN n) fun e w' => e = .returned v ∧ ∃ k, w' = (w.drewN n).drewN k) : Calls P f args (w.drewN n) fun e w'' => e = .returned v ∧ ∃ m, w'' = w.drewN m :=
  h.mono fun _ _ ⟨he, k, hm⟩ => ⟨he, n + k, by rw [hm, World.drewN_drewN]⟩
/-- A step: the position of a match, and the sequence. -/
def stc (x : Int × Sq) : List Value := [.int .i64 x.1, .int .i64 x.2.lit, .int .i64 x.2.len, .int .i64 x.2.off]
def stv (x : Int × Sq) : Value := .agg #[.int .i64 x.1, .int .i64 x.2.lit, .int .i64 x.2.len, .int .i64 x.2.off]
theorem below_of_grown {B : Nat} {w w' : World} {row : Option Nat} (h : w.grownBy w' row) (hB : B ≤ w.heap.size) (hr : ∀ k, row = some k → B ≤ k) : Below B w w' := (Below.refl B w).grown h hB hr
theorem grown_set {w w' : World} {row : Option Nat} (h : w.grownBy w' row) (a : Addr) (u : Value) (ha : row = some a.block ∨ w.heap.size ≤ a.block) : w.grownBy (w'.setCell a u) row :=
  ⟨h.os, h.tape, h.output, by simpa using h.size, fun k hk hne => (Below.heap_setCell w' a u k (by
    intro e
    rcases ha with ha | ha
    · exact hne (by rw [ha, e])
    · omega)).trans (h.block k hk hne)⟩
theorem grown_below {w w1 w2 : World} {row : Option Nat} (h : w.grownBy w1 row) (hb : Below w1.heap.size w1 w2) : w.grownBy w2 row :=
  ⟨hb.os.trans h.os, hb.tape.trans h.tape, hb.output.trans h.output, Nat.le_trans h.size hb.size, fun k hk hne => (hb.block k (Nat.lt_of_lt_of_le hk h.size)).trans (h.block k hk hne)⟩
end Go.Port
namespace Go.Port
open Go.RowKit

def encsP (x : Int × Sq) : Array Value := #[.int .i64 x.1, sqv x.2]
theorem take_next {α : Type} {l : List α} {k : Nat} {x : α} (h : l[k]? = some x) : l.take (k + 1) = l.take k ++ [x] := by
  obtain ⟨h1, h2⟩ := List.getElem?_eq_some_iff.1 h
  rw [List.take_succ_eq_append_getElem h1, h2]
theorem take_pre {α : Type} (l : List α) (k : Nat) : ∃ rest, l.take k ++ rest = l := ⟨l.drop k, List.take_append_drop k l⟩
end Go.Port
