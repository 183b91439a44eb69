/-
  The walks of layer 30's statements: finders made, all ways.
-/
import Derived.Test.YtngphgdoolcpcaaGrK
import Derived.Test.YtngphgdoolcpcaaPlanAll
namespace Go.Port
open Go.RowKit
/-- The arguments by which a finder is made. -/
structure MadeOk (mx : Int) (A D : List UInt8) (W dep : Int) : Prop where
  hA : (A.length : Int) ≤ mx
  hD : (D.length : Int) ≤ mx
  hk : finderOk D.length W dep = true
theorem from_cost {bs : List UInt8} {A : Nat} {W D least : Int} (hA : A ≤ bs.length) (hW : W ≤ 134217728) (he : fromE bs A 0 least = 0) :
    ∃ r, costM ((bs.length : Int) - A) (seqs (fromL bs A W D 0 least)) = some r ∧ r ≤ 8 * ((bs.length : Int) - A) + 15 * ((seqs (fromL bs A W D 0 least)).length : Nat) := by
  have hl : fromL bs A W D 0 least = planS (greedyA (findS bs A W D) least) ((bs.length : Int) - A) 0 0 := by unfold fromL; rw [if_pos he]; rfl
  obtain ⟨r, h1, h2⟩ := planS_cost (findS_ok (B := bs) (A := A) (W := W) (D := D) (least := least)) (greedy_in (B := bs) (A := A) (W := W) (D := D) (least := least)) hW ((bs.length : Int) - A - 0).toNat 0 0 (8 * ((bs.length : Int) - A)) (by omega) (Int.le_refl _) (by omega) greedy_goes
  refine ⟨r, ?_, ?_⟩
  · rw [hl]
    unfold costM
    rw [if_neg (by omega)]
    rw [Int.sub_zero] at h1
    exact h1
  · rw [hl]
    unfold seqs
    rw [List.length_map]
    exact h2
theorem finderOk_bounds {n : Nat} {W D : Int} (h : finderOk n W D = true) : (1 ≤ W ∧ W ≤ 134217728) ∧ (1 ≤ D ∧ D ≤ 4096) := by
  unfold finderOk at h
  simp only [Bool.and_eq_true, decide_eq_true_eq] at h
  omega
end Go.Port
namespace Go.Proofs.Ytngphgdoolcpcaa
open Go.RowKit Go.Port

theorem rsame_self (a1 a2 : Option Addr) (c1 c2 : Nat) (l : List Sq) (w : World) (hl : l.length ≤ 1000000) (hc1 : CellsAt w a1 (l.flatMap sqc)) (hc2 : CellsAt w a2 (l.flatMap sqc)) :
    Calls Try.prog 17 #[.slice a1 l.length c1, .slice a2 l.length c2] w fun e w' => e = .returned (.bool true) ∧ ∃ m, w' = w.drewN m := by
  have := rsame_any a1 a2 c1 c2 l l w hl hl hc1 hc2
  rwa [decide_eq_true rfl] at this

theorem made_any (v1 v2 : Value) (A D : List UInt8) (W dep : Int) (w : World) (h1 : Rs w 1 v1 A.length (A.map bv)) (h2 : Rs w 1 v2 D.length (D.map bv)) :
    Calls Try.prog 11 #[v1, v2, .int .i64 W, .int .i64 dep] w fun e w' => (e = .returned (.tuple #[.pointer none, fdv none 0 0 0 0 0, .bool false]) ∧ Below w.heap.size w w') ∨
      (MadeOk 200 A D W dep ∧ ∃ F a c, e = .returned (.tuple #[.pointer (some ⟨F, 0, none⟩), fdv a (A ++ D).length c A.length W dep, .bool true]) ∧ FdAt 57 119 (A ++ D) A.length W dep F w' ∧ CellsAt w' a ((A ++ D).map bv) ∧ (A ++ D).length ≤ c ∧ Below w.heap.size w w') := by
  obtain ⟨_, a1, c1, rfl, hc1, _, hn1, hcell1⟩ := h1
  obtain ⟨_, a2, c2, rfl, hc2, _, hn2, hcell2⟩ := h2
  by_cases hl : ((A.length : Int) ≤ 200 ∧ (D.length : Int) ≤ 200)
  · cases hk : finderOk D.length W dep with
    | false => exact (made_bad a1 a2 A.length D.length c1 c2 W dep w hl.1 hl.2 hk).mono fun _ _ h => .inl h
    | true =>
      refine (made_ok a1 a2 c1 c2 A D W dep w hl.1 hl.2 hc1 hc2 hn1 hn2 hcell1 hcell2 hk).mono ?_
      rintro e w' ⟨F, a, c, h3, h4, h5, h6, h7⟩
      exact .inr ⟨⟨hl.1, hl.2, hk⟩, F, a, c, h3, h4.at, h5, h6, h7⟩
  · exact (made_long a1 a2 A.length D.length c1 c2 W dep w hl).mono fun _ _ h => .inl h
end Go.Proofs.Ytngphgdoolcpcaa
