/-
  Plain laws of layer 32 for the stage's theorem: no cost is negative, more frequent symbols do not cost more, a plan's cost is the sum of its parts' costs.
-/
import Derived.Test.YtiagbejfghincaaGreatX22
namespace Go.Port
open Go.RowKit
theorem getD_le_sum : ∀ {c : List Int}, (∀ x ∈ c, Cnt x) → ∀ s, c.getD s 0 ≤ c.sum := by
  intro c
  induction c with
  | nil => intro _ s; simp
  | cons y r ih =>
    intro h s
    have h1 := sum_cnt (fun x hx => h x (List.mem_cons_of_mem _ hx) : ∀ x ∈ r, Cnt x)
    have h2 := h y (by simp)
    unfold Cnt at h2
    rw [List.sum_cons]
    cases s with
    | zero => simp only [List.getD_cons_zero]; omega
    | succ s =>
      have h3 := ih (fun x hx => h x (List.mem_cons_of_mem _ hx)) s
      simp only [List.getD_cons_succ]
      omega
theorem psym_nonneg {k : Nat} {c : List Int} (h : HistOk k c) (s : Nat) : 0 ≤ psym k c s := by
  have h1 := getD_le_sum h.2 s
  have h2 := getD_cnt h.2 s
  unfold Cnt at h2
  have h3 := symN_le k
  have h4 := lg_mono (a := c.getD s 0 + 1) (b := c.sum + symN k) (by omega) (by omega)
  unfold psym
  omega
theorem pcost_nonneg {k : Nat} {c : List Int} (h : HistOk k c) (s : Nat) : 0 ≤ pcost k c s := by
  have h1 := psym_nonneg h s
  unfold pcost
  omega
theorem litsC_nil (C : Nat → List Int) : litsC C [] = 0 := rfl
theorem litsC_one (C : Nat → List Int) (b : UInt8) : litsC C [b] = pcost 0 (C 0) b.toNat := by simp [litsC]
theorem litsC_app (C : Nat → List Int) (xs ys : List UInt8) : litsC C (xs ++ ys) = litsC C xs + litsC C ys := by simp [litsC, List.sum_append]
theorem numC_nonneg {C : Nat → List Int} {k : Nat} (h : HistOk k (C k)) {n x : Int} (e : numC C k n = some x) : 0 ≤ x := by
  unfold numC at e
  cases hc : codeS (decide (k = 2)) n with
  | none => rw [hc] at e; cases e
  | some c =>
    rw [hc] at e
    have e : pcost k (C k) c = x := by simpa using e
    have := pcost_nonneg h c
    omega
theorem stepC_nonneg {C : Nat → List Int} (h : ∀ k, k < 4 → HistOk k (C k)) {n off x : Int} (e : stepC C n off = some x) : 0 ≤ x := by
  unfold stepC at e
  split at e
  · cases e
  · cases hb : numC C 2 (off + 3) with
    | none => rw [hb] at e; cases e
    | some b =>
      cases ha : lenC C n with
      | none => rw [hb, ha] at e; cases e
      | some a =>
        rw [hb, ha] at e
        have e : b + a = x := by simpa using e
        have h1 := numC_nonneg (h 2 (by decide)) hb
        have h2 : 0 ≤ a := by
          unfold lenC at ha
          split at ha
          · cases ha
          · exact numC_nonneg (h 3 (by decide)) ha
        omega
theorem stepsGo_shift (C : Nat → List Int) : ∀ (l : List Sq) (n d m : Int), stepsGo C n l = some m → stepsGo C (n + d) l = some (m + d) := by
  intro l
  induction l with
  | nil => intro n d m e; cases e; rfl
  | cons s r ih =>
    intro n d m e
    unfold stepsGo at e ⊢
    cases hx : stepC C s.len s.off with
    | none => rw [hx] at e; cases e
    | some x =>
      rw [hx] at e
      have h1 := ih _ d _ e
      show stepsGo C (n + d + x) r = _
      rw [← h1]
      congr 1
      omega
theorem litsGo_drop (bs : List UInt8) (m : Nat) : ∀ (q : List Sq) (a n : Int), (m : Int) ≤ a → planEnd a q = some n → litsGo bs a q = litsGo (bs.drop m) (a - m) q := by
  intro q
  induction q with
  | nil => intro a n _ _; rfl
  | cons s r ih =>
    intro a n ha e
    unfold planEnd at e
    split at e
    · rename_i hb
      have h1 := linB_in hb
      simp only [litsGo]
      rw [ih _ n (by omega) e, List.drop_drop, show m + (a - (m : Int)).toNat = a.toNat from by omega, show a - (m : Int) + s.lit + s.len = a + s.lit + s.len - (m : Int) from by omega]
    · cases e
end Go.Port
namespace Go.Proofs.YtiagbejfghincaaGreat
open Go.RowKit Go.Port
end Go.Proofs.YtiagbejfghincaaGreat
