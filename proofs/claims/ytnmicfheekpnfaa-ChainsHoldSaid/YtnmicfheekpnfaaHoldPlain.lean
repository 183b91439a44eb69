/-
  Plain laws of layer 29: the match found against each candidate. No program in sight.
-/
import Derived.Test.YtnmicfheekpnfaaChMore
import Derived.Test.YtnmicfheekpnfaaCg
import Derived.Test.YtnmicfheekpnfaaVerPlain
namespace Go.Port
open Go.RowKit
theorem placesS_nat (B : List UInt8) (A : Nat) (W D : Int) (P : Nat) (hP : (P : Int) ≤ (B.length : Int) - A) : placesS B A W D (P : Int) = (candS B (A + P) W D).map fun q => A + P - q := by
  unfold placesS
  rw [if_pos ⟨by omega, hP⟩, Int.toNat_natCast]
theorem placesS_sorted (B : List UInt8) (A : Nat) (W D p : Int) : (placesS B A W D p).Pairwise (· < ·) := by
  unfold placesS
  split
  · rw [List.pairwise_map]
    refine (candS_sorted B (A + p.toNat) W D).imp_of_mem ?_
    intro a b ha hb h
    have h1 := (candS_mem ha).1
    have h2 := (candS_mem hb).1
    omega
  · exact List.Pairwise.nil
theorem hold_plain {B : List UInt8} {A : Nat} {W D p : Int} {s : Sq} (h : findS B A W D p = some s) : ∃ P N d : Nat, p = (P : Int) ∧ s = ⟨0, (N : Int), (d : Int)⟩ ∧ 3 ≤ N ∧ A + P + N ≤ B.length ∧ 1 ≤ d ∧ d ≤ A + P ∧ (d : Int) ≤ W ∧
    VerOk B (A + P) W 0 [⟨0, (N : Int), (d : Int)⟩] ∧ lenS B ((A + P : Nat) : Int) ((A + P - d : Nat) : Int) B.length = N ∧ d ∈ placesS B A W D (P : Int) ∧
    ∀ x ∈ placesS B A W D (P : Int), 1 ≤ x ∧ x ≤ A + P ∧ (x : Int) ≤ W ∧ 3 ≤ lenS B ((A + P : Nat) : Int) ((A + P - x : Nat) : Int) B.length ∧ lenS B ((A + P : Nat) : Int) ((A + P - x : Nat) : Int) B.length ≤ N ∧ (lenS B ((A + P : Nat) : Int) ((A + P - x : Nat) : Int) B.length = N → d ≤ x) := by
  obtain ⟨P, N, d, hp, rfl, n3, d1, d2, d3, d4, d5⟩ := findS_is h
  obtain ⟨P', q, hp', hP, hq, e⟩ := findS_of h
  subst hp
  obtain rfl : P = P' := by omega
  simp only [Sq.mk.injEq, true_and] at e
  obtain ⟨e1, e2⟩ := e
  have hqm := candS_mem hq
  have hN : N = cpl B.length (B.drop (A + P)) (B.drop q) := by omega
  have hd : d = A + P - q := by omega
  have hpl := placesS_nat B A W D P hP
  refine ⟨P, N, d, rfl, rfl, n3, d4, d1, d2, d3, ⟨⟨Int.le_refl _, Int.le_refl _, by simp only; omega, by simp only; omega, by simp only; omega, d3, by simp only; omega, ?_⟩, trivial⟩, ?_, ?_, ?_⟩
  · intro k hk
    simp only at hk ⊢
    have := d5 k (by omega)
    rw [show A + P + k - d = A + P - d + k by omega] at this
    rw [show (((A + P : Nat) : Int) + (0 + 0)).toNat = A + P by omega, show (((A + P : Nat) : Int) + (0 + 0) - (d : Int)).toNat = A + P - d by omega]
    exact this
  · rw [hN, hd, show A + P - (A + P - q) = q by omega]
    exact lenS_at hqm.1 (by omega)
  · rw [hpl, hd]
    exact List.mem_map.2 ⟨q, hq, rfl⟩
  · intro x hx
    rw [hpl] at hx
    obtain ⟨r, hr, rfl⟩ := List.mem_map.1 hx
    have hrm := candS_mem hr
    obtain ⟨s, s1, s2, s3, s4⟩ := findS_best hP hr
    rw [h] at s1
    cases s1
    rw [show A + P - (A + P - r) = r by omega, lenS_at hrm.1 (by omega)]
    simp only at s2 s3
    exact ⟨by omega, by omega, by omega, s4, by omega, fun hh => by have := s3 (by rw [hh]); omega⟩
/-- The place looked at before the j-th. -/
def lastF (L : List Nat) : Nat → Nat
  | 0 => 0
  | k + 1 => L.getD k 0
theorem lastF_lt {L : List Nat} (h : L.Pairwise (· < ·)) (h0 : ∀ x ∈ L, 1 ≤ x) {j x : Nat} (hj : L[j]? = some x) : lastF L j < x := by
  cases j with
  | zero => exact h0 x (List.mem_of_getElem? hj)
  | succ k =>
    show L.getD k 0 < x
    obtain ⟨h1, h2⟩ := List.getElem?_eq_some_iff.1 hj
    rw [List.getD_eq_getElem?_getD, List.getElem?_eq_getElem (by omega), Option.getD_some, ← h2]
    exact List.pairwise_iff_getElem.1 h k (k + 1) (by omega) h1 (by omega)
theorem lastF_next {L : List Nat} {j x : Nat} (hj : L[j]? = some x) : lastF L (j + 1) = x := by
  show L.getD j 0 = x
  rw [List.getD_eq_getElem?_getD, hj]
  rfl
/-- d is among the first j places. -/
def inF (L : List Nat) (d j : Nat) : Bool := decide (d ∈ L.take j)
theorem inF_next {L : List Nat} {d j x : Nat} (hj : L[j]? = some x) : inF L d (j + 1) = (inF L d j || decide (x = d)) := by
  have hst : L.take (j + 1) = L.take j ++ [x] := by
    obtain ⟨h1, h2⟩ := List.getElem?_eq_some_iff.1 hj
    rw [List.take_succ_eq_append_getElem h1, h2]
  unfold inF
  rw [hst]
  by_cases h1 : d ∈ L.take j
  · simp [h1]
  · by_cases h2 : x = d
    · simp [h2]
    · have : ¬ d = x := fun h => h2 h.symm
      simp [h1, h2, this]
theorem inF_all {L : List Nat} {d : Nat} (h : d ∈ L) : inF L d L.length = true := by
  unfold inF
  rw [List.take_of_length_le (Nat.le_refl _)]
  exact decide_eq_true h
end Go.Port
