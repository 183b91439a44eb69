/-
  Plain laws of layers 30 and 31: the rest of a plan is the plan from where its head ends. No program in sight.
-/
import Derived.Test.YtngphgdoolcpcaaPlanCost
namespace Go.Port
open Go.RowKit
/-- Where a plan ends that starts at a. -/
def endOf (a : Int) : List Sq → Int
  | [] => a
  | s :: r => endOf (a + s.lit + s.len) r
theorem endOf_snoc (l : List Sq) (x : Sq) : ∀ a, endOf a (l ++ [x]) = endOf a l + x.lit + x.len := by
  induction l with
  | nil => intro a; rfl
  | cons y r ih => intro a; exact ih _
theorem planS_drop {act : Int → Mv} {size W : Int} (hm : MvOk act) (hi : ActIn size W act) : ∀ (k : Nat) (p : Int), p ≤ size → k ≤ (planS act size p p).length →
    planS act size (endOf p ((seqsL (planS act size p p)).take k)) (endOf p ((seqsL (planS act size p p)).take k)) = (planS act size p p).drop k ∧ p ≤ endOf p ((seqsL (planS act size p p)).take k) ∧ endOf p ((seqsL (planS act size p p)).take k) ≤ size := by
  intro k
  induction k with
  | zero => intro p hp _; exact ⟨rfl, Int.le_refl _, hp⟩
  | succ k ih =>
    intro p hp hk
    have hs := planS_scan hm size (size - p).toNat p p (by omega)
    cases ho : scanS act size p with
    | none => rw [ho] at hs; simp only at hs; rw [hs] at hk; simp at hk
    | some y =>
      obtain ⟨q, s⟩ := y
      rw [ho] at hs
      simp only at hs
      obtain ⟨h1, h2, h3⟩ := scanS_some hm (size - p).toNat (by omega) ho
      obtain ⟨g0, g1, g2, g3, g4, g5⟩ := hi q s h3
      rw [hs] at hk ⊢
      simp only [seqsL, List.map_cons, List.take_succ_cons, List.drop_succ_cons, endOf]
      have e : p + (q - p) + s.len = q + s.len := by omega
      rw [e]
      simp only [List.length_cons] at hk
      obtain ⟨i1, i2, i3⟩ := ih (q + s.len) g4 (by omega)
      exact ⟨i1, Int.le_trans (by omega) i2, i3⟩
theorem planS_nil {act : Int → Mv} (hm : MvOk act) {size p frm : Int} (h : ∀ q s, act q ≠ .take s) : planS act size p frm = [] := by
  have hs := planS_scan hm size (size - p).toNat p frm (by omega)
  cases ho : scanS act size p with
  | none => rw [ho] at hs; exact hs
  | some y =>
    obtain ⟨q, s⟩ := y
    exact absurd (scanS_some hm (size - p).toNat (by omega) ho).2.2 (h q s)
end Go.Port
