/-
  The walks of layer 5 (tally), first part (from XTally): bits.Len, log, total.
-/
import Derived.Test.YtolmmfbgljgdcaaGreatRows
import Derived.Test.YtolmmfbgljgdcaaGreatBase
import Derived.Test.YtolmmfbgljgdcaaGreatLogs
import Derived.Test.YtolmmfbgljgdcaaGreatShelf
namespace Go.Proofs.YtolmmfbgljgdcaaGreat
open Go.RowKit Go.Port

theorem bitLen_log (n : Nat) (h : n ≠ 0) (h1 : n < 2 ^ 64) : Lib.bitLen n = Nat.log2 n + 1 := by
  have := Lib.bitLen_shift (Nat.log2 n) n (log2_lo h) h1
  rw [this]
  have h2 := log2_hi n
  rw [Nat.pow_succ] at h2
  have h3 := log2_lo h
  have e : n / 2 ^ Nat.log2 n = 1 := by
    have hp := Nat.two_pow_pos (Nat.log2 n)
    rw [Nat.div_eq_iff hp]
    omega
  rw [e]
  rfl

set_option maxHeartbeats 400000 in
theorem len_log (n : Int) (w : World) (h0 : 0 < n) (h1 : n < 4611686018427387904) :
    Calls Tryz.prog 91 #[.int .u64 n] w fun e w' => e = .returned (.int .i64 ((Nat.log2 n.toNat : Nat) + 1 : Int)) ∧ w = w' := by
  refine (Tryz.bits_Len n w (by omega) (by omega)).mono ?_
  rintro e w' ⟨he, hw⟩
  rw [bitLen_log n.toNat (by omega) (by omega)] at he
  exact ⟨by rw [he]; rfl, hw.symm⟩

theorem u64_nat (p : Nat) (h1 : p < 4611686018427387904) : IntKind.u64.wrap (p : Int) = p := by rw [IntKind.wrap_u64]; omega
theorem u64_sub (N p : Nat) (h1 : N < 4611686018427387904) (hlo : p ≤ N) : IntKind.u64.wrap ((N : Int) - p) = ((N - p : Nat) : Int) := by rw [IntKind.wrap_u64]; omega
theorem wrap_sum (d k : Nat) (hk : k < 62) (hd : d < 4611686018427387904) : wrap64 ((k : Int) * 256 + wrap64 (d : Int)) = (k : Int) * 256 + d := by
  simp only [wrap64]
  omega

theorem log_hi_aux (N k p q : Nat) (hk : k < 62) (h1 : N < 4611686018427387904) (hlo : p ≤ N) :
    wrap64 ((k : Int) * 256 + wrap64 (IntKind.u64.wrap ((N : Int) - IntKind.u64.wrap (p : Int)) / (q : Int))) = (k : Int) * 256 + (((N - p) / q : Nat) : Int) := by
  have hd := Nat.div_le_self (N - p) q
  rw [u64_nat p (by omega), u64_sub N p h1 hlo, ← Int.natCast_ediv]
  exact wrap_sum _ k hk (by omega)

theorem log_lo_aux (N k p q : Nat) (hk : k < 8) (h1 : N < 4611686018427387904) (hlo : p ≤ N) (hhi : N < p * 2) (hq : p * q = 256) :
    wrap64 ((k : Int) * 256 + wrap64 (IntKind.u64.wrap (IntKind.u64.wrap ((N : Int) - IntKind.u64.wrap (p : Int)) * (q : Int)))) = (k : Int) * 256 + (((N - p) * q : Nat) : Int) := by
  have hle : (N - p) * q ≤ p * q := Nat.mul_le_mul_right q (by omega)
  rw [hq] at hle
  rw [u64_nat p (by omega), u64_sub N p h1 hlo, ← Int.natCast_mul, u64_nat _ (Nat.lt_of_le_of_lt hle (by decide))]
  exact wrap_sum _ k (by omega) (Nat.lt_of_le_of_lt hle (by decide))

theorem two_pow_cast (k : Nat) : (2 : Int) ^ k = ((2 ^ k : Nat) : Int) := by simp

theorem log_hi_eq (n : Int) (k : Nat) (hk : k < 62) (h0 : 0 < n) (h1 : n < 4611686018427387904) (hlo : 2 ^ k ≤ n.toNat) :
    wrap64 ((k : Int) * 256 + wrap64 (IntKind.u64.wrap (n - IntKind.u64.wrap (2 ^ k)) / 2 ^ (k - 8))) = (k : Int) * 256 + (((n.toNat - 2 ^ k) / 2 ^ (k - 8) : Nat) : Int) := by
  have h := log_hi_aux n.toNat k (2 ^ k) (2 ^ (k - 8)) hk (by omega) hlo
  rw [Int.toNat_of_nonneg (Int.le_of_lt h0)] at h
  rw [two_pow_cast k, two_pow_cast (k - 8)]
  exact h

theorem log_lo_eq (n : Int) (k : Nat) (hk : k < 8) (h0 : 0 < n) (h1 : n < 4611686018427387904) (hlo : 2 ^ k ≤ n.toNat) (hhi : n.toNat < 2 ^ k * 2) :
    wrap64 ((k : Int) * 256 + wrap64 (IntKind.u64.wrap (IntKind.u64.wrap (n - IntKind.u64.wrap (2 ^ k)) * 2 ^ (8 - k)))) = (k : Int) * 256 + (((n.toNat - 2 ^ k) * 2 ^ (8 - k) : Nat) : Int) := by
  have h := log_lo_aux n.toNat k (2 ^ k) (2 ^ (8 - k)) hk (by omega) hlo hhi (by rw [← Nat.pow_add, show k + (8 - k) = 8 by omega])
  rw [Int.toNat_of_nonneg (Int.le_of_lt h0)] at h
  rw [two_pow_cast k, two_pow_cast (8 - k)]
  exact h

set_option maxHeartbeats 400000 in
theorem log_any (n : Int) (w : World) (h0 : 0 < n) (h1 : n < 4611686018427387904) :
    Calls Tryz.prog 120 #[.int .i64 n] w fun e w' => e = .returned (.int .i64 (lg n)) ∧ w = w' := by
  have hN : n.toNat ≠ 0 := by omega
  have hk : Nat.log2 n.toNat < 62 := by
    rw [Nat.log2_lt hN]
    show n.toNat < 4611686018427387904
    omega
  have hlo := log2_lo hN
  have hhi := log2_hi n.toNat
  rw [Nat.pow_succ] at hhi
  have hlen := len_log n w h0 h1
  have hlg : lg n = if 8 ≤ Nat.log2 n.toNat then (Nat.log2 n.toNat : Int) * 256 + (((n.toNat - 2 ^ Nat.log2 n.toNat) / 2 ^ (Nat.log2 n.toNat - 8) : Nat) : Int) else (Nat.log2 n.toNat : Int) * 256 + (((n.toNat - 2 ^ Nat.log2 n.toNat) * 2 ^ (8 - Nat.log2 n.toNat) : Nat) : Int) := by
    unfold lg logN
    split <;> omega
  generalize Nat.log2 n.toNat = k at *
  have HC := hid hlen
  clear hlen
  by_cases h8 : 8 ≤ k
  · rw [if_pos h8, ← log_hi_eq n k hk h0 h1 hlo] at hlg
    have HL := hid hlg
    clear hlg
    go_enter Tryz.func120, Tryz.ntmps120
    go_wp2_with (go_at_call 91; refine HC.out.mono ?_; rintro e w' ⟨rfl, rfl⟩)
    go_ret
    exact ⟨ret_i HL.out.symm, rfl⟩
  · rw [if_neg h8, ← log_lo_eq n k (by omega) h0 h1 hlo hhi] at hlg
    have HL := hid hlg
    clear hlg
    go_enter Tryz.func120, Tryz.ntmps120
    go_wp2_with (go_at_call 91; refine HC.out.mono ?_; rintro e w' ⟨rfl, rfl⟩)
    go_ret
    exact ⟨ret_i HL.out.symm, rfl⟩
/-! ### total -/
set_option maxHeartbeats 400000 in
theorem total_any (a : Option Addr) (c : Nat) (l : List Int) (w : World) (hl : l.length ≤ 256) (hcnt : ∀ x ∈ l, Cnt x)
    (hc : ∀ j u, (l.map iv)[j]? = some u → ∃ b off, a = some ⟨b, off, none⟩ ∧ b < w.heap.size ∧ w.cell? ⟨b, off + j, none⟩ = some u) :
    Calls Tryz.prog 110 #[.slice a l.length c] w fun e w' => e = .returned (.int .i64 l.sum) ∧ w = w' := by
  have HC := hid hc
  have HN := hid hcnt
  clear hc hcnt
  go_enter Tryz.func110, Tryz.ntmps110
  go_wp2
  go_loop [2, 7] (fun n i => ∃ k : Nat, k ≤ l.length ∧ i = .int .i64 k ∧ n = .int .i64 (l.take k).sum) (fun _ i => l.length - (intOf i).toNat)
  case atStart => exact ⟨0, Nat.zero_le _, rfl, by simp⟩
  case round =>
    obtain ⟨k, hk, rfl, rfl⟩ := hrel
    by_cases hlt : k < l.length
    · obtain ⟨x, hx⟩ : ∃ x, l[k]? = some x := ⟨l[k], by simp [hlt]⟩
      obtain ⟨b, off, rfl, _, hcell⟩ := HC.out k (iv x) (by simp [hx])
      have hb := sum_bounds (l := l.take k) (fun y hy => HN.out y (List.mem_of_mem_take hy))
      have hxc := HN.out x (List.mem_of_getElem? hx)
      unfold Cnt at hxc
      have hlen : (l.take k).length ≤ 256 := by rw [List.length_take]; omega
      have hsum : (l.take (k + 1)).sum = (l.take k).sum + x := by
        rw [List.take_succ_eq_append_getElem hlt, List.sum_append]
        have : l[k] = x := by simpa [hlt] using hx
        simp [this]
      have HS := hid hsum
      clear hsum hx
      unfold iv at hcell
      go_wp2
      go_round
      case rel => exact ⟨k + 1, by omega, by go_num, by rw [HS.out]⟩
      case measure => simp [intOf]; omega
    · obtain rfl : k = l.length := by omega
      go_wp2
      go_ret
      exact ⟨by simp, rfl⟩

theorem Tryz.info_int : (Tryz.prog.info? 3).map (fun i => (i.zero, i.size, i.bytes)) = some (some (.int .i64 0), 1, 8) := by kernel_rfl
end Go.Proofs.YtolmmfbgljgdcaaGreat
