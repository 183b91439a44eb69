/-
  Plain laws of layer 30: with a larger minimum length the first match starts no earlier. No program in sight.
-/
import Derived.Test.YtngphgdoolcpcaaGrM
namespace Go.Port
open Go.RowKit
theorem scan_later {find : Int → Option Sq} {l m size : Int} (hlm : l ≤ m) (hm : MvOk (greedyA find m)) (hl : MvOk (greedyA find l)) : ∀ (k : Nat) (p q : Int) (s : Sq), size - p ≤ k → scanS (greedyA find m) size p = some (q, s) →
    ∃ q2 s2, scanS (greedyA find l) size p = some (q2, s2) ∧ q2 ≤ q := by
  intro k
  induction k with
  | zero => intro p q s h e; rw [scanS_end _ (by omega)] at e; cases e
  | succ k ih =>
    intro p q s h e
    by_cases hp : p < size
    · cases ea : greedyA find l p with
      | take s2 => exact ⟨p, s2, scanS_take hp ea, (scanS_some hm (size - p).toNat (by omega) e).1⟩
      | go n =>
        obtain ⟨rfl, hg⟩ := greedyA_go ea
        have em : greedyA find m p = .go (p + 1) := by
          unfold greedyA
          cases hf : find p with
          | none => rfl
          | some t => have := hg t hf; simp only; rw [if_pos (by omega)]
        rw [scanS_go hm hp em] at e
        rw [scanS_go hl hp ea]
        exact ih (p + 1) q s (by omega) e
    · rw [scanS_end _ (by omega)] at e; cases e
/-- The first literals of two greedy plans. -/
theorem first_later {bs : List UInt8} {A : Nat} {W D l m : Int} (h3 : 3 ≤ l) (hlm : l ≤ m) (hA : A ≤ bs.length) :
    (∀ x r, seqs (fromL bs A W D 0 m) = x :: r → ∃ y t, seqs (fromL bs A W D 0 l) = y :: t ∧ y.lit ≤ x.lit) ∧ ∀ y t, seqs (fromL bs A W D 0 l) = y :: t → y.lit < (bs.length : Int) - A := by
  rw [fromL_ok h3 (Int.le_refl _) (by omega), fromL_ok (by omega) (Int.le_refl _) (by omega)]
  have hm := findS_ok (B := bs) (A := A) (W := W) (D := D) (least := m)
  have hl := findS_ok (B := bs) (A := A) (W := W) (D := D) (least := l)
  have em := planS_scan hm ((bs.length : Int) - A) ((bs.length : Int) - A - 0).toNat 0 0 (by omega)
  have el := planS_scan hl ((bs.length : Int) - A) ((bs.length : Int) - A - 0).toNat 0 0 (by omega)
  constructor
  · intro x r hx
    cases om : scanS (greedyA (findS bs A W D) m) ((bs.length : Int) - A) 0 with
    | none => rw [om] at em; simp only at em; rw [em] at hx; simp [seqs] at hx
    | some y =>
      obtain ⟨q, s⟩ := y
      obtain ⟨q2, s2, h1, h2⟩ := scan_later hlm hm hl ((bs.length : Int) - A - 0).toNat 0 q s (by omega) om
      rw [om] at em
      rw [h1] at el
      simp only at em el
      rw [em] at hx
      rw [el]
      simp only [seqs, List.map_cons, List.cons.injEq] at hx ⊢
      refine ⟨_, _, ⟨rfl, rfl⟩, ?_⟩
      rw [← hx.1]
      simp only
      omega
  · intro y t hy
    cases ol : scanS (greedyA (findS bs A W D) l) ((bs.length : Int) - A) 0 with
    | none => rw [ol] at el; simp only at el; rw [el] at hy; simp [seqs] at hy
    | some z =>
      obtain ⟨q, s⟩ := z
      have hs := scanS_some hl ((bs.length : Int) - A - 0).toNat (by omega) ol
      rw [ol] at el
      simp only at el
      rw [el] at hy
      simp only [seqs, List.map_cons, List.cons.injEq] at hy
      rw [← hy.1]
      simp only
      omega
end Go.Port
