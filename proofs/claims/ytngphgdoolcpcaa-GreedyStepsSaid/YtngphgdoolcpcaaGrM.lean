/-
  Plain laws of layer 30's statements: the greedy plan from where its head ends; its sequences.
-/
import Derived.Test.YtngphgdoolcpcaaGrL
import Derived.Test.YtngphgdoolcpcaaPlanAll
namespace Go.Port
open Go.RowKit
theorem fromE_zero {bs : List UInt8} {A : Nat} {p least : Int} (h1 : 3 ≤ least) (h2 : 0 ≤ p) (h3 : p ≤ (bs.length : Int) - A) : fromE bs A p least = 0 := by
  unfold fromE
  rw [if_neg (by omega), if_neg (by omega)]
theorem fromL_ok {bs : List UInt8} {A : Nat} {W D p least : Int} (h1 : 3 ≤ least) (h2 : 0 ≤ p) (h3 : p ≤ (bs.length : Int) - A) : fromL bs A W D p least = planS (greedyA (findS bs A W D) least) ((bs.length : Int) - A) p p := by
  unfold fromL
  rw [if_pos (fromE_zero h1 h2 h3)]
  rfl
theorem CellsAt.dropSq {w : World} {a : Option Addr} {l : List Sq} {k : Nat} (h : CellsAt w a (l.flatMap sqc)) (hk : k ≤ l.length) : CellsAt w (a.map fun x => x.add (k * 3)) ((l.drop k).flatMap sqc) := by
  intro q u hu
  have hs : (l.flatMap sqc)[k * 3 + q]? = some u := by
    have h3 : l.flatMap sqc = (l.take k).flatMap sqc ++ (l.drop k).flatMap sqc := by rw [← List.flatMap_append, List.take_append_drop]
    have h4 : ((l.take k).flatMap sqc).length = k * 3 := by rw [sqc_length, List.length_take, Nat.min_eq_left hk]
    rw [h3, List.getElem?_append_right (by omega), h4, Nat.add_sub_cancel_left]
    exact hu
  obtain ⟨b2, o2, rfl, e2, e3⟩ := h _ _ hs
  exact ⟨b2, o2 + k * 3, by simp [Go.WideShapes.add_plain], e2, by rw [Nat.add_assoc]; exact e3⟩
/-- Where the head of a greedy plan ends the rest begins. -/
theorem fromL_rest {bs : List UInt8} {A : Nat} {W D least : Int} (h1 : 3 ≤ least) (hA : A ≤ bs.length) {k : Nat} (hk : k ≤ (seqs (fromL bs A W D 0 least)).length) :
    seqs (fromL bs A W D (endOf 0 ((seqs (fromL bs A W D 0 least)).take k)) least) = (seqs (fromL bs A W D 0 least)).drop k ∧ 0 ≤ endOf 0 ((seqs (fromL bs A W D 0 least)).take k) ∧ endOf 0 ((seqs (fromL bs A W D 0 least)).take k) ≤ (bs.length : Int) - A := by
  rw [fromL_ok h1 (Int.le_refl _) (by omega)] at hk ⊢
  obtain ⟨i1, i2, i3⟩ := planS_drop (findS_ok (B := bs) (A := A) (W := W) (D := D) (least := least)) (greedy_in (B := bs) (A := A) (W := W) (D := D) (least := least)) k 0 (by omega) (by unfold seqs at hk; rwa [List.length_map] at hk)
  have i2' : 0 ≤ endOf 0 ((seqs (planS (greedyA (findS bs A W D) least) ((bs.length : Int) - A) 0 0)).take k) := i2
  have i3' : endOf 0 ((seqs (planS (greedyA (findS bs A W D) least) ((bs.length : Int) - A) 0 0)).take k) ≤ (bs.length : Int) - A := i3
  refine ⟨?_, i2', i3'⟩
  rw [fromL_ok h1 i2' i3']
  unfold seqsL at i1
  unfold seqs
  have i1' := congrArg (List.map (fun x : Int × Sq => x.2)) i1
  rw [List.map_drop] at i1'
  exact i1'
theorem seqs_pos {bs : List UInt8} {A : Nat} {W D p least : Int} : ∀ s ∈ seqs (fromL bs A W D p least), 0 ≤ s.lit ∧ 3 ≤ s.len ∧ least ≤ s.len ∧ 1 ≤ s.off ∧ s.off ≤ W := by
  intro s hs
  obtain ⟨x, hx, rfl⟩ := List.mem_map.1 hs
  unfold fromL at hx
  split at hx
  · unfold greedyP at hx
    obtain ⟨h1, h2, s', lit, h3, h4, h5, h6⟩ := planS_mem (findS_ok (B := bs) (A := A) (W := W) (D := D) (least := least)) ((bs.length : Int) - A) _ p p x (by exact Int.self_le_toNat _) (Int.le_refl _) hx
    have hf := greedyA_take h3
    have := findS_form hf.1
    rw [h4]
    exact ⟨h5, this.2.1, hf.2, this.2.2.1, this.2.2.2.2.2.1⟩
  · cases hx
theorem fromL_none {bs : List UInt8} {A : Nat} {W D least : Int} (h : (bs.length : Int) - A < least) : fromL bs A W D 0 least = [] := by
  unfold fromL
  split
  · exact planS_nil findS_ok fun q s e => by
      have := greedyA_take e
      have := findS_form this.1
      omega
  · rfl
end Go.Port
