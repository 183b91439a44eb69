/-
  Plain laws of layer 32 for the stage's theorem: no cost is negative, more frequent symbols do not cost more, a plan's cost is the sum of its parts' costs.
-/
import Derived.Test.YtolmmfbgljgdcaaPrV
namespace Go.Port
open Go.RowKit
theorem getD_le_sum : ∀ {c : List Int}, (∀ x ∈ c, Cnt x) → ∀ s, c.getD s 0 ≤ c.sum := by
  intro c
  induction c with
  | nil => intro _ s; simp
  | cons y r ih =>
    intro h s
    have h1 := sum_cnt (fun x hx => h x (List.mem_cons_of_mem _ hx) : ∀ x ∈ r, Cnt x)
    have h2 := h y (by simp)
    unfold Cnt at h2
    rw [List.sum_cons]
    cases s with
    | zero => simp only [List.getD_cons_zero]; omega
    | succ s =>
      have h3 := ih (fun x hx => h x (List.mem_cons_of_mem _ hx)) s
      simp only [List.getD_cons_succ]
      omega
theorem psym_nonneg {k : Nat} {c : List Int} (h : HistOk k c) (s : Nat) : 0 ≤ psym k c s := by
  have h1 := getD_le_sum h.2 s
  have h2 := getD_cnt h.2 s
  unfold Cnt at h2
  have h3 := symN_le k
  have h4 := lg_mono (a := c.getD s 0 + 1) (b := c.sum + symN k) (by omega) (by omega)
  unfold psym
  omega
theorem pcost_nonneg {k : Nat} {c : List Int} (h : HistOk k c) (s : Nat) : 0 ≤ pcost k c s := by
  have h1 := psym_nonneg h s
  unfold pcost
  omega
theorem pcost_mono {c : List Int} (h : HistOk 0 c) {a b : Nat} (hab : c.getD b 0 ≤ c.getD a 0) : pcost 0 c a ≤ pcost 0 c b := by
  have h2 := getD_cnt h.2 b
  unfold Cnt at h2
  have h4 := lg_mono (a := c.getD b 0 + 1) (b := c.getD a 0 + 1) (by omega) (by omega)
  have e : ∀ s, sbits 0 s = 0 := fun s => rfl
  unfold pcost psym
  rw [e, e]
  omega
theorem litsC_nil (C : Nat → List Int) : litsC C [] = 0 := rfl
theorem litsC_one (C : Nat → List Int) (b : UInt8) : litsC C [b] = pcost 0 (C 0) b.toNat := by simp [litsC]
theorem litsC_app (C : Nat → List Int) (xs ys : List UInt8) : litsC C (xs ++ ys) = litsC C xs + litsC C ys := by simp [litsC, List.sum_append]
theorem litsC_nonneg {C : Nat → List Int} (h : HistOk 0 (C 0)) : ∀ bs : List UInt8, 0 ≤ litsC C bs := by
  intro bs
  induction bs with
  | nil => exact Int.le_refl _
  | cons b r ih =>
    have h1 := pcost_nonneg h b.toNat
    have h2 : litsC C (b :: r) = pcost 0 (C 0) b.toNat + litsC C r := by simp [litsC]
    omega
theorem numC_nonneg {C : Nat → List Int} {k : Nat} (h : HistOk k (C k)) {n x : Int} (e : numC C k n = some x) : 0 ≤ x := by
  unfold numC at e
  cases hc : codeS (decide (k = 2)) n with
  | none => rw [hc] at e; cases e
  | some c =>
    rw [hc] at e
    have e : pcost k (C k) c = x := by simpa using e
    have := pcost_nonneg h c
    omega
theorem stepC_nonneg {C : Nat → List Int} (h : ∀ k, k < 4 → HistOk k (C k)) {n off x : Int} (e : stepC C n off = some x) : 0 ≤ x := by
  unfold stepC at e
  split at e
  · cases e
  · cases hb : numC C 2 (off + 3) with
    | none => rw [hb] at e; cases e
    | some b =>
      cases ha : lenC C n with
      | none => rw [hb, ha] at e; cases e
      | some a =>
        rw [hb, ha] at e
        have e : b + a = x := by simpa using e
        have h1 := numC_nonneg (h 2 (by decide)) hb
        have h2 : 0 ≤ a := by
          unfold lenC at ha
          split at ha
          · cases ha
          · exact numC_nonneg (h 3 (by decide)) ha
        omega
theorem stepsGo_le {C : Nat → List Int} (h : ∀ k, k < 4 → HistOk k (C k)) : ∀ (l : List Sq) (n m : Int), stepsGo C n l = some m → n ≤ m := by
  intro l
  induction l with
  | nil => intro n m e; cases e; exact Int.le_refl _
  | cons s r ih =>
    intro n m e
    unfold stepsGo at e
    cases hx : stepC C s.len s.off with
    | none => rw [hx] at e; cases e
    | some x =>
      rw [hx] at e
      have h1 := ih _ _ e
      have h2 := stepC_nonneg h hx
      omega
theorem stepsGo_shift (C : Nat → List Int) : ∀ (l : List Sq) (n d m : Int), stepsGo C n l = some m → stepsGo C (n + d) l = some (m + d) := by
  intro l
  induction l with
  | nil => intro n d m e; cases e; rfl
  | cons s r ih =>
    intro n d m e
    unfold stepsGo at e ⊢
    cases hx : stepC C s.len s.off with
    | none => rw [hx] at e; cases e
    | some x =>
      rw [hx] at e
      have h1 := ih _ d _ e
      show stepsGo C (n + d + x) r = _
      rw [← h1]
      congr 1
      omega
theorem stepsGo_app (C : Nat → List Int) : ∀ (p q : List Sq) (n m : Int), stepsGo C n (p ++ q) = some m → ∃ y, stepsGo C n p = some y ∧ stepsGo C y q = some m := by
  intro p
  induction p with
  | nil => intro q n m e; exact ⟨n, rfl, e⟩
  | cons s r ih =>
    intro q n m e
    have e : (match stepC C s.len s.off with | some x => stepsGo C (n + x) (r ++ q) | none => none) = some m := e
    cases hx : stepC C s.len s.off with
    | none => rw [hx] at e; cases e
    | some x =>
      rw [hx] at e
      obtain ⟨y, h1, h2⟩ := ih q _ m e
      refine ⟨y, ?_, h2⟩
      show (match stepC C s.len s.off with | some x => stepsGo C (n + x) r | none => none) = some y
      rw [hx]
      exact h1
theorem planEnd_shift : ∀ (q : List Sq) (a d n : Int), 0 ≤ d → planEnd a q = some n → planEnd (a - d) q = some (n - d) := by
  intro q
  induction q with
  | nil => intro a d n _ e; cases e; rfl
  | cons s r ih =>
    intro a d n hd e
    unfold planEnd at e ⊢
    split at e
    · rename_i hb
      have h1 := linB_in hb
      have h2 : linB s (a - d) = true := by
        unfold linB
        simp only [Bool.and_eq_true, decide_eq_true_eq]
        omega
      rw [if_pos h2, show a - d + s.lit + s.len = a + s.lit + s.len - d from by omega]
      exact ih _ d n hd e
    · cases e
theorem litsGo_app (bs : List UInt8) : ∀ (p q : List Sq) (a : Int), litsGo bs a (p ++ q) = litsGo bs a p ++ litsGo bs (lend a p) q := by
  intro p
  induction p with
  | nil => intro q a; rfl
  | cons s r ih => intro q a; simp only [List.cons_append, litsGo, ih, lend, List.append_assoc]
theorem litsGo_take (bs : List UInt8) (m : Nat) : ∀ (p : List Sq) (a n : Int), 0 ≤ a → planEnd a p = some n → n ≤ m → litsGo (bs.take m) a p = litsGo bs a p := by
  intro p
  induction p with
  | nil => intro a n _ _ _; rfl
  | cons s r ih =>
    intro a n ha e hn
    unfold planEnd at e
    split at e
    · rename_i hb
      have h1 := linB_in hb
      have h2 := planEnd_some r _ n e
      simp only [litsGo]
      rw [ih _ n (by omega) e hn, List.drop_take, List.take_take, Nat.min_eq_left (by omega)]
    · cases e
theorem litsGo_drop (bs : List UInt8) (m : Nat) : ∀ (q : List Sq) (a n : Int), (m : Int) ≤ a → planEnd a q = some n → litsGo bs a q = litsGo (bs.drop m) (a - m) q := by
  intro q
  induction q with
  | nil => intro a n _ _; rfl
  | cons s r ih =>
    intro a n ha e
    unfold planEnd at e
    split at e
    · rename_i hb
      have h1 := linB_in hb
      simp only [litsGo]
      rw [ih _ n (by omega) e, List.drop_drop, show m + (a - (m : Int)).toNat = a.toNat from by omega, show a - (m : Int) + s.lit + s.len = a + s.lit + s.len - (m : Int) from by omega]
    · cases e
end Go.Port
namespace Go.Proofs.Ytolmmfbgljgdcaa
open Go.RowKit Go.Port
/-- The cost of a plan is the sum of the costs of its parts. -/
theorem planO_cut {C : Nat → List Int} (h : ∀ k, k < 4 → HistOk k (C k)) {bs : List UInt8} {l : List Sq} (hp : plitsO bs l = true) {X : Int} (hO : planO C bs l = some X) (k : Nat) :
    0 ≤ X ∧ ∃ P : Nat, lend 0 (l.take k) = (P : Int) ∧ P ≤ bs.length ∧ ∃ Y Z : Int, plitsO (bs.take P) (l.take k) = true ∧ planO C (bs.take P) (l.take k) = some Y ∧ plitsO (bs.drop P) (l.drop k) = true ∧ planO C (bs.drop P) (l.drop k) = some Z ∧ Y + Z = X := by
  unfold plitsO at hp
  cases hn : planEnd 0 l with
  | none => rw [hn] at hp; cases hp
  | some n =>
    rw [hn] at hp
    have hp : n ≤ (bs.length : Int) := by simpa using hp
    have hl : l = l.take k ++ l.drop k := (List.take_append_drop k l).symm
    have e1 : planEnd 0 (l.take k) = some (lend 0 (l.take k)) := planEnd_pre (l.take k) (l.drop k) 0 n (by rw [← hl]; exact hn)
    have b1 := planEnd_some _ _ _ e1
    obtain ⟨P, hP⟩ : ∃ P : Nat, lend 0 (l.take k) = (P : Int) := ⟨(lend 0 (l.take k)).toNat, by omega⟩
    have e2 : planEnd (P : Int) (l.drop k) = some n := by
      have := planEnd_app (l.take k) (l.drop k) 0 _ e1
      rw [← hl, hn, hP] at this
      exact this.symm
    have b2 := planEnd_some _ _ _ e2
    have hPb : P ≤ bs.length := by omega
    have e3 := planEnd_shift (l.drop k) (P : Int) (P : Int) n (by omega) e2
    rw [Int.sub_self] at e3
    have b3 := planEnd_some _ _ _ e3
    have b0 := planEnd_some _ _ _ hn
    have hL : litsS bs l = litsS (bs.take P) (l.take k) ++ litsS (bs.drop P) (l.drop k) := by
      unfold litsS
      rw [hP, List.drop_eq_nil_of_le (show (bs.take P).length ≤ ((P : Int)).toNat from by rw [List.length_take]; omega), List.append_nil, litsGo_take bs P _ 0 _ (Int.le_refl _) e1 (by omega)]
      have q1 := litsGo_app bs (l.take k) (l.drop k) 0
      rw [← hl, hP, litsGo_drop bs P (l.drop k) (P : Int) n (Int.le_refl _) e2, Int.sub_self] at q1
      rw [q1, List.append_assoc, List.drop_drop, ← b3.1, ← b0.1, show P + (n - (P : Int)).toNat = n.toNat from by omega]
    have hO' : stepsGo C (litsC C (litsS bs l)) l = some X := hO
    have hge := stepsGo_le h _ _ _ hO'
    have hnn := litsC_nonneg (h 0 (by decide)) (litsS bs l)
    refine ⟨by omega, P, hP, hPb, ?_⟩
    rw [hl] at hO'
    rw [← hl, hL, litsC_app] at hO'
    rw [hl] at hO'
    simp only [List.take_append_drop] at hO'
    have hO2 : stepsGo C (litsC C (litsS (bs.take P) (l.take k)) + litsC C (litsS (bs.drop P) (l.drop k))) (l.take k ++ l.drop k) = some X := by rw [← hl]; exact hO'
    obtain ⟨y, g1, g2⟩ := stepsGo_app C _ _ _ _ hO2
    have g3 := stepsGo_shift C _ _ (-(litsC C (litsS (bs.drop P) (l.drop k)))) _ g1
    have g4 := stepsGo_shift C _ _ (litsC C (litsS (bs.drop P) (l.drop k)) - y) _ g2
    refine ⟨y + -(litsC C (litsS (bs.drop P) (l.drop k))), X + (litsC C (litsS (bs.drop P) (l.drop k)) - y), ?_, ?_, ?_, ?_, by omega⟩
    · unfold plitsO
      rw [e1]
      simp only [decide_eq_true_eq, List.length_take]
      omega
    · unfold planO
      rw [← g3]
      congr 1
      omega
    · unfold plitsO
      rw [e3]
      simp only [decide_eq_true_eq, List.length_drop]
      omega
    · unfold planO
      rw [← g4]
      congr 1
      omega
end Go.Proofs.Ytolmmfbgljgdcaa
