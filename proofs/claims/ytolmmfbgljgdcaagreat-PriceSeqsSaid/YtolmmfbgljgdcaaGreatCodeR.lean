/-
  The walks of reference 20: Bits, Two, Of.
-/
import Derived.Test.YtolmmfbgljgdcaaGreatCodeW
namespace Go.Proofs.YtolmmfbgljgdcaaGreat
open Go.RowKit Go.Port

set_option maxRecDepth 100000 in
theorem rtwo_any (n : Nat) (w : World) (h : n < 44) :
    Calls Tryz.prog 103 #[.int .i64 (n : Int)] w fun e w' => e = .returned (.int .i64 (2 ^ n : Nat)) ∧ w = w' := by
  have HP := hid (show ∀ k, k < 44 → IntKind.i64.wrap (2 * ((2 ^ k : Nat) : Int)) = ((2 ^ (k + 1) : Nat) : Int) from by decide +kernel)
  have HH := hid h
  clear h
  go_enter Tryz.func103, Tryz.ntmps103
  go_wp2
  go_loopw [3, 4] (fun x i wr => ∃ j : Nat, j ≤ n ∧ i = .int .i64 (j : Int) ∧ x = .int .i64 (2 ^ j : Nat) ∧ wr = w) (fun _ i _ => n - (intOf i).toNat)
  case atStart => exact ⟨0, Nat.zero_le _, rfl, rfl, rfl⟩
  case round =>
    obtain ⟨j, hj, rfl, rfl, rfl⟩ := hrel
    by_cases hlt : j < n
    · have hp := HP.out j (by have := HH.out; omega)
      have hlI : (j : Int) < (n : Int) := by omega
      have hw1 : IntKind.i64.wrap ((j : Int) + 1) = (j : Int) + 1 := by have := HH.out; rw [IntKind.wrap_i64]; omega
      have HJ := hid hlt
      generalize hyy : 2 ^ (j + 1) = y at *
      generalize 2 ^ j = x at *
      have HY := hid hyy
      clear hyy
      clear hj hlt
      go_wp2
      go_roundw
      case rel => exact ⟨j + 1, HJ.out, by go_num, by rw [HY.out], trivial⟩
      case measure => have := HJ.out; simp [intOf]; omega
    · obtain rfl : j = n := by omega
      generalize hxx : 2 ^ j = x at *
      have HX := hid hxx
      clear hxx
      go_wp2
      go_ret
      exact ⟨by rw [HX.out]; rfl, rfl⟩
set_option maxRecDepth 100000 in
theorem rbits_off (c : Nat) (w : World) (h : c < 28) :
    Calls Tryz.prog 84 #[.int .i64 (c : Int), .bool true] w fun e w' => e = .returned (.int .i64 (ebits true c : Nat)) ∧ w = w' := by
  have HE := hid (show ebits true c = c from rfl)
  have h1 : ¬ (c : Int) < 0 := by omega
  have h2 : ¬ 43 < (c : Int) := by omega
  have h3 : ¬ 27 < (c : Int) := by omega
  clear h
  go_enter Tryz.func84, Tryz.ntmps84
  go_wp2
  go_ret
  exact ⟨ret_i (by rw [HE.out]), rfl⟩
set_option maxRecDepth 100000 in
theorem rbits_num (c : Nat) (w : World) (h : c < 44) :
    Calls Tryz.prog 84 #[.int .i64 (c : Int), .bool false] w fun e w' => e = .returned (.int .i64 (ebits false c : Nat)) ∧ w = w' := by
  have h1 : ¬ (c : Int) < 0 := by omega
  have h2 : ¬ 43 < (c : Int) := by omega
  have HE := hid (show ebits false c = if c < 16 then 0 else c / 2 - 5 from rfl)
  generalize ebits false c = b at *
  have HH := hid h
  clear h
  go_enter Tryz.func84, Tryz.ntmps84
  go_wp2
  go_loopw [5, 6] (fun n x wr => ∃ j : Nat, 16 + 2 * j ≤ c + 2 + 16 ∧ x = .int .i64 (16 + 2 * (j : Int)) ∧ n = .int .i64 (if j = 0 then 0 else 2 + (j : Int)) ∧ (j = 0 ∨ 16 + 2 * (j - 1) ≤ c) ∧ wr = w) (fun _ x _ => 60 - (intOf x).toNat)
  case atStart => exact ⟨0, by omega, rfl, rfl, .inl rfl, rfl⟩
  case round =>
    obtain ⟨j, hj, rfl, rfl, hjj, rfl⟩ := hrel
    by_cases hlt : 16 + 2 * j ≤ c
    · have hx : 16 + 2 * (j : Int) ≤ (c : Int) := by omega
      have hHH := HH.out
      have hw1 : IntKind.i64.wrap (16 + 2 * (j : Int) - 16) = 2 * (j : Int) := by rw [IntKind.wrap_i64]; omega
      have hw2 : IntKind.i64.wrap (2 * (j : Int) / 2) = (j : Int) := by rw [IntKind.wrap_i64]; omega
      have hw3 : IntKind.i64.wrap (3 + (j : Int)) = 3 + (j : Int) := by rw [IntKind.wrap_i64]; omega
      have hw4 : IntKind.i64.wrap (16 + 2 * (j : Int) + 2) = 16 + 2 * (j : Int) + 2 := by rw [IntKind.wrap_i64]; omega
      have HJ := hid (And.intro hlt hHH)
      generalize (if j = 0 then (0 : Int) else 2 + (j : Int)) = nn at *
      clear hj hjj hlt hHH
      go_wp2
      go_roundw
      case rel =>
        have := HJ.out
        refine ⟨j + 1, by omega, by go_num, ?_, .inr (by omega), trivial⟩
        rw [if_neg (by omega)]
        congr 1
        omega
      case measure => have := HJ.out; simp [intOf]; omega
    · have hx : ¬ 16 + 2 * (j : Int) ≤ (c : Int) := by omega
      have hn : (if j = 0 then (0 : Int) else 2 + (j : Int)) = (b : Int) := by
        rw [HE.out]
        split <;> split <;> omega
      rw [hn]
      clear hn hj hjj hlt
      go_wp2
      go_ret
      exact ⟨rfl, rfl⟩
end Go.Proofs.YtolmmfbgljgdcaaGreat
