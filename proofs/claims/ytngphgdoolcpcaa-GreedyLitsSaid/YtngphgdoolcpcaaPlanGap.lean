/-
  Plain laws of layer 30: no long match is found at a literal, and every match is the one found. No program in sight.
-/
import Derived.Test.YtngphgdoolcpcaaGrM
namespace Go.Port
open Go.RowKit
theorem scan_gap {find : Int → Option Sq} {l size : Int} (hl : MvOk (greedyA find l)) : ∀ (k : Nat) (p : Int), size - p ≤ k →
    (∀ q s, scanS (greedyA find l) size p = some (q, s) → ∀ r, p ≤ r → r < q → ∀ t, find r = some t → t.len < l) ∧ (scanS (greedyA find l) size p = none → ∀ r, p ≤ r → r < size → ∀ t, find r = some t → t.len < l) := by
  intro k
  induction k with
  | zero =>
    intro p h
    refine ⟨fun q s e => ?_, fun _ r h1 h2 => ?_⟩
    · rw [scanS_end _ (by omega)] at e; cases e
    · omega
  | succ k ih =>
    intro p h
    by_cases hp : p < size
    · cases ea : greedyA find l p with
      | take s2 =>
        rw [scanS_take hp ea]
        refine ⟨fun q s e r h1 h2 => ?_, fun e => by cases e⟩
        cases e
        omega
      | go n =>
        obtain ⟨rfl, hg⟩ := greedyA_go ea
        rw [scanS_go hl hp ea]
        obtain ⟨i1, i2⟩ := ih (p + 1) (by omega)
        refine ⟨fun q s e r h1 h2 t ht => ?_, fun e r h1 h2 t ht => ?_⟩
        · by_cases hr : r = p
          · subst hr; exact hg t ht
          · exact i1 q s e r (by omega) h2 t ht
        · by_cases hr : r = p
          · subst hr; exact hg t ht
          · exact i2 e r (by omega) h2 t ht
    · refine ⟨fun q s e => ?_, fun _ r h1 h2 => ?_⟩
      · rw [scanS_end _ (by omega)] at e; cases e
      · omega
/-- What lies behind the head of a greedy plan. -/
theorem fromL_gap {bs : List UInt8} {A : Nat} {W D least : Int} (h1 : 3 ≤ least) (hA : A ≤ bs.length) {k : Nat} (hk : k ≤ (seqs (fromL bs A W D 0 least)).length) :
    (∀ x, (seqs (fromL bs A W D 0 least))[k]? = some x → (∀ r, endOf 0 ((seqs (fromL bs A W D 0 least)).take k) ≤ r → r < endOf 0 ((seqs (fromL bs A W D 0 least)).take k) + x.lit → ∀ t, findS bs A W D r = some t → t.len < least) ∧
      findS bs A W D (endOf 0 ((seqs (fromL bs A W D 0 least)).take k) + x.lit) = some ⟨0, x.len, x.off⟩) ∧
    (k = (seqs (fromL bs A W D 0 least)).length → ∀ r, endOf 0 ((seqs (fromL bs A W D 0 least)).take k) ≤ r → r < (bs.length : Int) - A → ∀ t, findS bs A W D r = some t → t.len < least) := by
  obtain ⟨r1, r2, r3⟩ := fromL_rest (D := D) (W := W) h1 hA hk
  generalize endOf 0 ((seqs (fromL bs A W D 0 least)).take k) = e at *
  rw [fromL_ok h1 r2 r3] at r1
  have hl := findS_ok (B := bs) (A := A) (W := W) (D := D) (least := least)
  have hs := planS_scan hl ((bs.length : Int) - A) ((bs.length : Int) - A - e).toNat e e (by omega)
  have hg := scan_gap (size := (bs.length : Int) - A) hl ((bs.length : Int) - A - e).toNat e (by omega)
  refine ⟨fun x hx => ?_, fun hkl => ?_⟩
  · cases ho : scanS (greedyA (findS bs A W D) least) ((bs.length : Int) - A) e with
    | none =>
      rw [ho] at hs
      simp only at hs
      rw [hs] at r1
      have := congrArg List.length r1
      rw [List.length_drop] at this
      have h2 := (List.getElem?_eq_some_iff.1 hx).1
      simp [seqs] at this h2
      omega
    | some y =>
      obtain ⟨q, s⟩ := y
      rw [ho] at hs
      simp only at hs
      rw [hs] at r1
      have hx2 : some (⟨q - e, s.len, s.off⟩ : Sq) = some x := by
        rw [← hx]
        have := congrArg List.head? r1
        rw [List.head?_drop] at this
        exact this
      simp only [Option.some.injEq] at hx2
      subst hx2
      have h3 := scanS_some hl ((bs.length : Int) - A - e).toNat (by omega) ho
      have h4 := (greedyA_take h3.2.2).1
      have h5 := findS_form h4
      have he : e + (q - e) = q := by omega
      simp only
      rw [he]
      refine ⟨fun r h6 h7 t ht => hg.1 q s ho r h6 h7 t ht, ?_⟩
      rw [h4]
      congr 1
      obtain ⟨l0, n0, o0⟩ := s
      simp only at h5 ⊢
      rw [h5.1]
  · cases ho : scanS (greedyA (findS bs A W D) least) ((bs.length : Int) - A) e with
    | none => exact hg.2 ho
    | some y =>
      obtain ⟨q, s⟩ := y
      rw [ho] at hs
      simp only at hs
      rw [hs, hkl, List.drop_length] at r1
      simp [seqs] at r1
end Go.Port
