/-
  Plain laws of layer 29: what the match found is. No program in sight.
-/
import Derived.Test.YtngphgdoolcpcaaPlanPlain
import Derived.Test.YtngphgdoolcpcaaMatchA
namespace Go.Port
open Go.RowKit
theorem firstGo_mem (f : Sq → Sq → Bool) (l : List Sq) : ∀ (o : Option Sq) (s : Sq), firstGo f o l = some s → o = some s ∨ s ∈ l := by
  induction l with
  | nil => intro o s h; cases o <;> exact .inl h
  | cons x l ih =>
    intro o s h
    cases o with
    | none =>
      rcases ih _ _ h with h1 | h1
      · cases h1; exact .inr (by simp)
      · exact .inr (by simp [h1])
    | some y =>
      rcases ih _ _ h with h1 | h1
      · split at h1
        · cases h1; exact .inr (by simp)
        · exact .inl h1
      · exact .inr (by simp [h1])
theorem bestS_mem {b : List UInt8} {pos most : Int} {frm : List Int} {s : Sq} (h : bestS b pos most frm = some s) : s ∈ matchesS b pos most frm ∧ 3 ≤ s.len := by
  unfold bestS at h
  cases hf : firstGo aheadB none (matchesS b pos most frm) with
  | none => rw [hf] at h; cases h
  | some t =>
    rw [hf] at h
    dsimp only at h
    split at h
    · cases h
    · cases h
      rcases firstGo_mem _ _ _ _ hf with h1 | h1
      · cases h1
      · exact ⟨h1, by omega⟩

/-- The match found: where it lies, and that its bytes are those at its offset. -/
theorem findS_is {B : List UInt8} {A : Nat} {W D p : Int} {s : Sq} (h : findS B A W D p = some s) :
    ∃ P n d : Nat, p = (P : Int) ∧ s = ⟨0, n, d⟩ ∧ 3 ≤ n ∧ 1 ≤ d ∧ d ≤ A + P ∧ (d : Int) ≤ W ∧ A + P + n ≤ B.length ∧ (∀ k, k < n → B[A + P + k]? = B[A + P + k - d]?) := by
  unfold findS at h
  split at h
  · rename_i hp
    obtain ⟨P, rfl⟩ : ∃ P : Nat, p = (P : Int) := ⟨p.toNat, by omega⟩
    rw [Int.toNat_natCast] at h
    obtain ⟨hm, h3⟩ := bestS_mem h
    obtain ⟨x, hx, he, rfl⟩ := matchesS_mem hm
    obtain ⟨q, hq, rfl⟩ := List.mem_map.1 hx
    obtain ⟨c1, c2, c3, c4⟩ := candS_mem hq
    have hl : lenS B ((A + P : Nat) : Int) (q : Int) (B.length : Int) = cpl (B.length : Int).toNat (B.drop ((A + P : Nat) : Int).toNat) (B.drop (q : Int).toNat) := by unfold lenS; rw [he]; rfl
    rw [hl] at h3 ⊢
    simp only [Int.toNat_natCast] at h3 ⊢
    have h1 := cpl_le B.length (B.drop (A + P)) (B.drop q)
    have h2 := cpl_eq B.length (B.drop (A + P)) (B.drop q)
    generalize cpl B.length (B.drop (A + P)) (B.drop q) = N at *
    rw [List.length_drop, List.length_drop] at h1
    refine ⟨P, N, A + P - q, rfl, ?_, by omega, by omega, by omega, by omega, by omega, fun k hk => ?_⟩
    · congr 1
      omega
    · have := h2 k hk
      rw [List.getElem?_drop, List.getElem?_drop] at this
      rw [this]
      congr 1
      omega
  · cases h
theorem findS_form {B : List UInt8} {A : Nat} {W D p : Int} {s : Sq} (h : findS B A W D p = some s) : s.lit = 0 ∧ 3 ≤ s.len ∧ 1 ≤ s.off ∧ 0 ≤ p ∧ p + s.len ≤ (B.length : Int) - A ∧ s.off ≤ W ∧ s.off ≤ A + p := by
  obtain ⟨P, n, d, rfl, rfl, h1, h2, h3, h4, h5, _⟩ := findS_is h
  exact ⟨rfl, (by omega : (3 : Int) ≤ n), (by omega : (1 : Int) ≤ d), (by omega : (0 : Int) ≤ P), (by omega : (P : Int) + n ≤ (B.length : Int) - A), h4, (by omega : (d : Int) ≤ A + P)⟩
theorem findS_ok {B : List UInt8} {A : Nat} {W D : Int} {least : Int} : MvOk (greedyA (findS B A W D) least) := greedyA_ok fun p s h => by
  have := findS_form h
  omega
end Go.Port
