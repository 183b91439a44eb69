/-
  bits.Len as a floor of the binary logarithm.
-/
import Derived.Test.YtnmicfheekpnfaaMatchB
import Derived.Test.YtnmicfheekpnfaaLogs
import Derived.Test.YtnmicfheekpnfaaShelf
namespace Go.Port
open Go.RowKit
theorem bitLen_log (n : Nat) (h : n ≠ 0) (h1 : n < 2 ^ 64) : Lib.bitLen n = Nat.log2 n + 1 := by
  have := Lib.bitLen_shift (Nat.log2 n) n (log2_lo h) h1
  rw [this]
  have h2 := log2_hi n
  rw [Nat.pow_succ] at h2
  have h3 := log2_lo h
  have e : n / 2 ^ Nat.log2 n = 1 := by
    have hp := Nat.two_pow_pos (Nat.log2 n)
    rw [Nat.div_eq_iff hp]
    omega
  rw [e]
  rfl
theorem log2_half {m : Nat} (h : 2 ≤ m) : Nat.log2 m = Nat.log2 (m / 2) + 1 := by
  rw [Nat.log2_def, if_pos h]
theorem log2_small {n : Int} (h : n < 2) : Nat.log2 n.toNat = 0 := by
  have : n.toNat = 0 ∨ n.toNat = 1 := by omega
  rcases this with e | e <;> rw [e] <;> rfl
theorem log2_63 {n : Int} (h : n ≤ 9223372036854775807) : Nat.log2 n.toNat < 63 := by
  by_cases h0 : n.toNat = 0
  · rw [h0]; decide
  · rw [Nat.log2_lt h0]
    show n.toNat < 9223372036854775808
    omega
end Go.Port
namespace Go.Proofs.Ytnmicfheekpnfaa
open Go.RowKit Go.Port

theorem len_log0 (n : Int) (w : World) (h0 : 0 ≤ n) (h1 : n ≤ 9223372036854775807) :
    Calls Try.prog 81 #[.int .u64 n] w fun e w' => e = .returned (.int .i64 (if n = 0 then 0 else (Nat.log2 n.toNat : Nat) + 1 : Int)) ∧ w = w' := by
  refine (Try.bits_Len n w (by omega) (by omega)).mono ?_
  rintro e w' ⟨he, hw⟩
  refine ⟨?_, hw.symm⟩
  rw [he]
  by_cases hn : n = 0
  · subst hn
    rfl
  · rw [if_neg hn, bitLen_log n.toNat (by omega) (by omega)]
    rfl
end Go.Proofs.Ytnmicfheekpnfaa
