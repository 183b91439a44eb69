/-
  The walks of layer 28, fourth part: the floor of the binary logarithm, in the program and in the reference.
-/
import Derived.Test.YtclheffeiaaodaaMatchB
import Derived.Test.YtclheffeiaaodaaLogs
import Derived.Test.YtclheffeiaaodaaShelf
namespace Go.Port
open Go.RowKit
theorem bitLen_log (n : Nat) (h : n ≠ 0) (h1 : n < 2 ^ 64) : Lib.bitLen n = Nat.log2 n + 1 := by
  have := Lib.bitLen_shift (Nat.log2 n) n (log2_lo h) h1
  rw [this]
  have h2 := log2_hi n
  rw [Nat.pow_succ] at h2
  have h3 := log2_lo h
  have e : n / 2 ^ Nat.log2 n = 1 := by
    have hp := Nat.two_pow_pos (Nat.log2 n)
    rw [Nat.div_eq_iff hp]
    omega
  rw [e]
  rfl
theorem log2_half {m : Nat} (h : 2 ≤ m) : Nat.log2 m = Nat.log2 (m / 2) + 1 := by
  rw [Nat.log2_def, if_pos h]
theorem log2_small {n : Int} (h : n < 2) : Nat.log2 n.toNat = 0 := by
  have : n.toNat = 0 ∨ n.toNat = 1 := by omega
  rcases this with e | e <;> rw [e] <;> rfl
theorem log2_63 {n : Int} (h : n ≤ 9223372036854775807) : Nat.log2 n.toNat < 63 := by
  by_cases h0 : n.toNat = 0
  · rw [h0]; decide
  · rw [Nat.log2_lt h0]
    show n.toNat < 9223372036854775808
    omega
end Go.Port
namespace Go.Proofs.Ytclheffeiaaodaa
open Go.RowKit Go.Port

theorem len_log0 (n : Int) (w : World) (h0 : 0 ≤ n) (h1 : n ≤ 9223372036854775807) :
    Calls Try.prog 67 #[.int .u64 n] w fun e w' => e = .returned (.int .i64 (if n = 0 then 0 else (Nat.log2 n.toNat : Nat) + 1 : Int)) ∧ w = w' := by
  refine (Try.bits_Len n w (by omega) (by omega)).mono ?_
  rintro e w' ⟨he, hw⟩
  refine ⟨?_, hw.symm⟩
  rw [he]
  by_cases hn : n = 0
  · subst hn
    rfl
  · rw [if_neg hn, bitLen_log n.toNat (by omega) (by omega)]
    rfl

set_option maxHeartbeats 800000 in
theorem mlog_any (n : Int) (w : World) (h0 : -9223372036854775808 ≤ n) (h1 : n ≤ 9223372036854775807) :
    Calls Try.prog 45 #[.int .i64 n] w fun e w' => e = .returned (.int .i64 (logI n)) ∧ w = w' := by
  have hl := log2_63 h1
  unfold logI
  have HL := hid (len_log0 (max 0 n) w (by omega) (by omega))
  have hr : ∃ r : Int, (if max 0 n = 0 then (0 : Int) else (Nat.log2 (max 0 n).toNat : Nat) + 1) = r ∧ 0 ≤ r ∧ r ≤ 64 ∧ max 0 (r - 1) = (Nat.log2 n.toNat : Nat) := by
    by_cases hn : 0 < n
    · rw [if_neg (by omega), show max 0 n = n from by omega]
      exact ⟨_, rfl, by omega, by omega, by omega⟩
    · rw [if_pos (by omega), log2_small (by omega)]
      exact ⟨0, rfl, by omega, by omega, by decide⟩
  obtain ⟨r, e, hr0, hr1, hr2⟩ := hr
  rw [e] at HL
  clear e hl
  have HR := hid hr2
  clear hr2
  have hw2 : IntKind.i64.wrap (r - 1) = r - 1 := by rw [IntKind.wrap_i64]; omega
  go_enter Try.func45, Try.ntmps45
  go_wp2_with fail
  refine HL.out.mono ?_
  rintro e w' ⟨rfl, rfl⟩
  go_wp2
  go_ret
  exact ⟨ret_i HR.out, rfl⟩

theorem rlog_any (n : Int) (w : World) (h1 : n ≤ 9223372036854775807) :
    Calls Try.prog 59 #[.int .i64 n] w fun e w' => e = .returned (.int .i64 (logI n)) ∧ w = w' := by
  have hl := log2_63 h1
  unfold logI
  generalize hL : Nat.log2 n.toNat = L at *
  go_enter Try.func59, Try.ntmps59
  go_wp2
  go_loop [0, 3] (fun x i => ∃ (m : Int) (j : Nat), x = .int .i64 m ∧ i = .int .i64 j ∧ Hid (j + Nat.log2 m.toNat = L) ∧ m ≤ 9223372036854775807) (fun x _ => (intOf x).toNat)
  case atStart => exact ⟨n, 0, rfl, rfl, hid (by omega), h1⟩
  case round =>
    obtain ⟨m, j, rfl, rfl, HJ, hm⟩ := hrel
    by_cases h2 : 1 < m
    · have hj : j + Nat.log2 (m / 2).toNat + 1 = L := by
        have e1 := HJ.out
        have e2 : (m / 2).toNat = m.toNat / 2 := by omega
        rw [log2_half (show 2 ≤ m.toNat by omega)] at e1
        rw [e2]
        omega
      have HJ2 := hid hj
      have hjl : (j : Int) < 63 := by omega
      have ht : m.tdiv 2 = m / 2 := by rw [Int.tdiv_eq_ediv_of_nonneg (by omega)]
      clear hj
      go_wp2
      go_round
      case rel => exact ⟨m / 2, j + 1, by first | rfl | go_num, by go_num, hid (by have := HJ2.out; omega), by omega⟩
      case measure => simp [intOf]; omega
    · have e : j = L := by
        have e1 := HJ.out
        rw [log2_small (by omega)] at e1
        omega
      go_wp2
      go_ret
      exact ⟨rfl, rfl⟩

end Go.Proofs.Ytclheffeiaaodaa
