/-
  Plain laws of layer 20 (code): codes of numbers and of offsets, their first values and extra bits. No program in sight.
-/
import Derived.Test.YtolmmfbgljgdcaaGreatLogs
namespace Go.Port
def ebits (off : Bool) (c : Nat) : Nat := if off then c else if c < 16 then 0 else c / 2 - 5
def efirst (off : Bool) (c : Nat) : Nat := if off then 2 ^ c else if c < 16 then c else (2 + c % 2) * 2 ^ (c / 2 - 5)
def ecode (off : Bool) (v : Nat) : Nat := if off then Nat.log2 v else if v < 16 then v else 8 + 2 * Nat.log2 v + v / 2 ^ (Nat.log2 v - 1) % 2
def ecodes (off : Bool) : Nat := if off then 28 else 44
def ebelow (off : Bool) : Nat := if off then 268435456 else 262144
def eleast (off : Bool) : Nat := if off then 1 else 0
theorem efirst_next : ∀ (off : Bool) (c : Nat), c < ecodes off → efirst off (c + 1) = efirst off c + 2 ^ ebits off c := by decide
theorem efirst_zero : ∀ off : Bool, efirst off 0 = eleast off := by decide
theorem efirst_end : ∀ off : Bool, efirst off (ecodes off) = ebelow off := by decide
theorem efirst_le {off : Bool} {a b : Nat} (h : a ≤ b) (hb : b ≤ ecodes off) : efirst off a ≤ efirst off b := by
  induction b with
  | zero =>
    obtain rfl : a = 0 := by omega
    exact Nat.le_refl _
  | succ b ih =>
    by_cases e : a = b + 1
    · subst e; exact Nat.le_refl _
    · have h1 := ih (by omega) (by omega)
      rw [efirst_next off b (by omega)]
      exact Nat.le_trans h1 (Nat.le_add_right _ _)
theorem ecode_spec {off : Bool} {v : Nat} (h0 : eleast off ≤ v) (h1 : v < ebelow off) : ecode off v < ecodes off ∧ efirst off (ecode off v) ≤ v ∧ v < efirst off (ecode off v + 1) := by
  cases off with
  | true =>
    unfold eleast ebelow at *
    unfold ecode ecodes efirst
    simp only [if_true] at *
    have hv : v ≠ 0 := by omega
    refine ⟨(Nat.log2_lt hv).2 (by omega), log2_lo hv, log2_hi v⟩
  | false =>
    unfold eleast ebelow at *
    unfold ecode ecodes
    simp only [Bool.false_eq_true, if_false] at *
    by_cases hs : v < 16
    · rw [if_pos hs]
      refine ⟨by omega, ?_, ?_⟩
      · unfold efirst; simp only [Bool.false_eq_true, if_false]; rw [if_pos hs]; exact Nat.le_refl _
      · unfold efirst
        simp only [Bool.false_eq_true, if_false]
        split
        · omega
        · obtain rfl : v = 15 := by omega
          decide
    · rw [if_neg hs]
      have hv : v ≠ 0 := by omega
      have hk1 : 4 ≤ Nat.log2 v := (Nat.le_log2 hv).2 (by omega)
      have hk2 : Nat.log2 v < 18 := (Nat.log2_lt hv).2 (by omega)
      have lo := log2_lo hv
      have hi := log2_hi v
      generalize Nat.log2 v = k at *
      obtain ⟨m, rfl⟩ : ∃ m, k = m + 1 := ⟨k - 1, by omega⟩
      rw [Nat.add_sub_cancel] at *
      have hp : 0 < 2 ^ m := Nat.two_pow_pos m
      have e1 : 2 ^ (m + 1) = 2 ^ m * 2 := Nat.pow_succ ..
      have e2 : 2 ^ (m + 1 + 1) = 2 ^ m * 4 := by rw [Nat.pow_succ, e1]; omega
      rw [e1] at lo
      rw [e2] at hi
      have hq1 : 2 ≤ v / 2 ^ m := (Nat.le_div_iff_mul_le hp).2 (by omega)
      have hq2 : v / 2 ^ m < 4 := (Nat.div_lt_iff_lt_mul hp).2 (by omega)
      have hd := Nat.div_add_mod v (2 ^ m)
      have hr := Nat.mod_lt v hp
      have hF : ∀ b, b < 2 → efirst false (8 + 2 * (m + 1) + b) = (2 + b) * 2 ^ m := fun b hb => by
        unfold efirst
        simp only [Bool.false_eq_true, if_false]
        rw [if_neg (by omega), show (8 + 2 * (m + 1) + b) % 2 = b by omega, show (8 + 2 * (m + 1) + b) / 2 - 5 = m by omega]
      have hF2 : efirst false (8 + 2 * (m + 1) + 2) = 4 * 2 ^ m := by
        unfold efirst
        simp only [Bool.false_eq_true, if_false]
        rw [if_neg (by omega), show (8 + 2 * (m + 1) + 2) % 2 = 0 by omega, show (8 + 2 * (m + 1) + 2) / 2 - 5 = m + 1 by omega, e1]
        omega
      generalize 2 ^ m = X at *
      have hc : v / X = 2 ∨ v / X = 3 := by omega
      rcases hc with hc | hc
      · rw [hc] at hd ⊢
        refine ⟨by omega, ?_, ?_⟩
        · rw [hF (2 % 2) (by omega)]; omega
        · rw [show 8 + 2 * (m + 1) + 2 % 2 + 1 = 8 + 2 * (m + 1) + 1 by omega, hF 1 (by omega)]; omega
      · rw [hc] at hd ⊢
        refine ⟨by omega, ?_, ?_⟩
        · rw [hF (3 % 2) (by omega)]; omega
        · rw [show 8 + 2 * (m + 1) + 3 % 2 + 1 = 8 + 2 * (m + 1) + 2 by omega, hF2]; omega
/-- The code of a value is the first behind whose values it does not lie. -/
theorem ecode_is {off : Bool} {v c : Nat} (h0 : eleast off ≤ v) (h1 : v < ebelow off) (hc : c < ecodes off) (ha : efirst off c ≤ v) (hb : v < efirst off (c + 1)) : ecode off v = c := by
  obtain ⟨s1, s2, s3⟩ := ecode_spec h0 h1
  rcases Nat.lt_trichotomy (ecode off v) c with h | h | h
  · have := efirst_le (off := off) (a := ecode off v + 1) (b := c) (by omega) (by omega)
    omega
  · exact h
  · have := efirst_le (off := off) (a := c + 1) (b := ecode off v) (by omega) (by omega)
    omega
end Go.Port
