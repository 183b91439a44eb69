/-
  Plain laws of layers 30 and 31: a plan fits its data, and what it costs. No program in sight.
-/
import Derived.Test.YtngphgdoolcpcaaFindPlain
namespace Go.Port
open Go.RowKit
/-- A plan without its positions. -/
def seqsL (l : List (Int × Sq)) : List Sq := l.map (·.2)
/-- What is taken is a match within the data. -/
def ActIn (size W : Int) (act : Int → Mv) : Prop := ∀ p s, act p = .take s → s.lit = 0 ∧ 3 ≤ s.len ∧ 1 ≤ s.off ∧ s.off ≤ W ∧ p + s.len ≤ size ∧ 0 ≤ p
theorem greedy_in {B : List UInt8} {A : Nat} {W D least : Int} : ActIn ((B.length : Int) - A) W (greedyA (findS B A W D) least) := by
  intro p s h
  unfold greedyA at h
  cases hf : findS B A W D p with
  | none => rw [hf] at h; simp at h
  | some t =>
    rw [hf] at h
    simp only at h
    split at h
    · simp at h
    · simp only [Mv.take.injEq] at h
      subst h
      have := findS_form hf
      exact ⟨this.1, this.2.1, this.2.2.1, this.2.2.2.2.2.1, this.2.2.2.2.1, this.2.2.2.1⟩
theorem greedyA_take {find : Int → Option Sq} {least p : Int} {s : Sq} (h : greedyA find least p = .take s) : find p = some s ∧ least ≤ s.len := by
  unfold greedyA at h
  cases hf : find p with
  | none => rw [hf] at h; simp at h
  | some t =>
    rw [hf] at h
    simp only at h
    split at h
    · simp at h
    · simp only [Mv.take.injEq] at h
      subst h
      exact ⟨rfl, by omega⟩
theorem greedyA_go {find : Int → Option Sq} {least p n : Int} (h : greedyA find least p = .go n) : n = p + 1 ∧ ∀ s, find p = some s → s.len < least := by
  unfold greedyA at h
  cases hf : find p with
  | none => rw [hf] at h; simp only [Mv.go.injEq] at h; exact ⟨h.symm, fun s e => by cases e⟩
  | some t =>
    rw [hf] at h
    simp only at h
    split at h
    · simp only [Mv.go.injEq] at h
      exact ⟨h.symm, fun s e => by cases e; assumption⟩
    · simp at h
theorem log_off {x : Int} (h1 : 1 ≤ x) (h2 : x ≤ 134217728) : 0 ≤ logI x ∧ logI x ≤ 27 := by
  unfold logI
  refine ⟨by omega, ?_⟩
  have h : Nat.log2 x.toNat < 28 := (Nat.log2_lt (by omega)).2 (by omega)
  omega
/-- A plan costs at most 15 a sequence more than its literals alone. -/
theorem planS_cost {act : Int → Mv} {W size : Int} (hm : MvOk act) (hi : ActIn size W act) (hW : W ≤ 134217728) : ∀ (k : Nat) (p frm price : Int), size - p ≤ k → frm ≤ p → p ≤ size → (∀ q n, act q = .go n → q < size → n ≤ size) →
    ∃ r, costGoM (size - frm) price (seqsL (planS act size p frm)) = some r ∧ r ≤ price + 15 * ((planS act size p frm).length : Nat) := by
  intro k
  induction k with
  | zero =>
    intro p frm price h hf hp _
    rw [planS_end act frm (by omega)]
    exact ⟨price, rfl, by simp⟩
  | succ k ih =>
    intro p frm price h hf hp hg
    by_cases hlt : p < size
    · cases e : act p with
      | go n =>
        have := (hm p).1 n e
        have h2 := hg p n e hlt
        rw [planS_go hm frm hlt e]
        exact ih n frm price (by omega) (by omega) h2 hg
      | take s =>
        obtain ⟨h0, h1, h2, h3, h4, h5⟩ := hi p s e
        rw [planS_take hm frm hlt e]
        have hl := log_off h2 (Int.le_trans h3 hW)
        obtain ⟨r, hr, hr2⟩ := ih (p + s.len) (p + s.len) (price + (12 + logI s.off - 8 * s.len)) (by omega) (Int.le_refl _) h4 hg
        refine ⟨r, ?_, ?_⟩
        · unfold seqsL at hr ⊢
          rw [List.map_cons]
          unfold costGoM
          have hb : seqBad (size - frm) ⟨p - frm, s.len, s.off⟩ = false := by
            unfold seqBad
            simp only [Bool.or_eq_false_iff, decide_eq_false_iff_not]
            omega
          rw [hb]
          simp only [Bool.false_eq_true, if_false]
          rw [← hr]
          congr 1
          omega
        · simp only [List.length_cons]
          omega
    · rw [planS_end act frm (by omega)]
      exact ⟨price, rfl, by simp⟩
theorem greedy_goes {find : Int → Option Sq} {least size : Int} : ∀ q n, greedyA find least q = .go n → q < size → n ≤ size := by
  intro q n h hq
  have := (greedyA_go h).1
  omega
end Go.Port
