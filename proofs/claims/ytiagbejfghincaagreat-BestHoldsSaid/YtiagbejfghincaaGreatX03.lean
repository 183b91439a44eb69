/-
  Plain arithmetic of layer 5: the fixed-point logarithm, the histogram of bytes, its cost. No program in sight.
  The walks of layer 5 (tally), first part (from XTally): bits.Len, log, total.
  The walks of layer 5 (tally), second part (from XTally2): the check of any row, Total, Log2.
-/
import Derived.Test.YtiagbejfghincaaGreatRows
import Derived.Test.YtiagbejfghincaaGreatX02
import Derived.Test.YtiagbejfghincaaGreatShelf
import Derived.WalkKit
namespace Go.Port
/-- The fixed-point logarithm as the program computes it. -/
def logN (n : Nat) : Nat :=
  if 8 ≤ Nat.log2 n then Nat.log2 n * 256 + (n - 2 ^ Nat.log2 n) / 2 ^ (Nat.log2 n - 8) else Nat.log2 n * 256 + (n - 2 ^ Nat.log2 n) * 2 ^ (8 - Nat.log2 n)
theorem log2_lo {n : Nat} (h : n ≠ 0) : 2 ^ Nat.log2 n ≤ n := Nat.log2_self_le h
theorem log2_hi (n : Nat) : n < 2 ^ (Nat.log2 n + 1) := Nat.lt_log2_self
/-- .. and in one formula. -/
theorem logN_eq (n : Nat) : logN n = Nat.log2 n * 256 + (n - 2 ^ Nat.log2 n) * 256 / 2 ^ Nat.log2 n := by
  unfold logN
  generalize hk : Nat.log2 n = k
  split
  · rename_i h8
    have e : 2 ^ k = 2 ^ (k - 8) * 256 := by
      rw [show (256 : Nat) = 2 ^ 8 from rfl, ← Nat.pow_add, Nat.sub_add_cancel h8]
    congr 1
    generalize n - 2 ^ k = m
    rw [e, Nat.mul_div_mul_right _ _ (by decide)]
  · rename_i h8
    have e : 256 = 2 ^ k * 2 ^ (8 - k) := by
      rw [← Nat.pow_add, show k + (8 - k) = 8 by omega]
    congr 1
    generalize n - 2 ^ k = m
    rw [e, ← Nat.mul_assoc, Nat.mul_comm m (2 ^ k), Nat.mul_assoc, Nat.mul_div_cancel_left _ (Nat.two_pow_pos k)]
theorem logN_bounds (n : Nat) (h : n ≠ 0) : Nat.log2 n * 256 ≤ logN n ∧ logN n < Nat.log2 n * 256 + 256 := by
  rw [logN_eq n]
  refine ⟨Nat.le_add_right _ _, Nat.add_lt_add_left ?_ _⟩
  rw [Nat.div_lt_iff_lt_mul (Nat.two_pow_pos _)]
  have h1 := log2_lo h
  have h2 := log2_hi n
  rw [Nat.pow_succ] at h2
  generalize 2 ^ Nat.log2 n = p at *
  omega
theorem logN_mono {a b : Nat} (ha : a ≠ 0) (h : a ≤ b) : logN a ≤ logN b := by
  have hb : b ≠ 0 := by omega
  have h1 := logN_bounds a ha
  have h2 := logN_bounds b hb
  have hk : Nat.log2 a ≤ Nat.log2 b := by
    rw [Nat.le_log2 hb]
    exact Nat.le_trans (log2_lo ha) h
  rcases Nat.lt_or_ge (Nat.log2 a) (Nat.log2 b) with hlt | hge
  · have : (Nat.log2 a + 1) * 256 ≤ Nat.log2 b * 256 := Nat.mul_le_mul_right _ hlt
    omega
  · have e : Nat.log2 a = Nat.log2 b := by omega
    rw [logN_eq a, logN_eq b, e]
    refine Nat.add_le_add_left (Nat.div_le_div_right (Nat.mul_le_mul_right _ ?_)) _
    omega
/-- .. on ints. -/
def lg (x : Int) : Int := (logN x.toNat : Nat)
theorem lg_bounds {x : Int} (h0 : 0 < x) (h1 : x < 4611686018427387904) : 0 ≤ lg x ∧ lg x < 16384 := by
  have hn : x.toNat ≠ 0 := by omega
  have hb := logN_bounds x.toNat hn
  have hk : Nat.log2 x.toNat < 62 := by
    rw [Nat.log2_lt hn]
    show x.toNat < 4611686018427387904
    omega
  unfold lg
  omega
theorem lg_mono {a b : Int} (ha : 0 < a) (h : a ≤ b) : lg a ≤ lg b := by
  unfold lg
  have := logN_mono (a := a.toNat) (b := b.toNat) (by omega) (by omega)
  omega
/-- A count that a histogram may hold. -/
def Cnt (c : Int) : Prop := 0 ≤ c ∧ c ≤ 2147483648
theorem sum_bounds {l : List Int} (h : ∀ c ∈ l, Cnt c) : 0 ≤ l.sum ∧ l.sum ≤ 2147483648 * l.length := by
  induction l with
  | nil => simp
  | cons c l ih =>
    have h1 := h c (by simp)
    have h2 := ih (fun c hc => h c (by simp [hc]))
    unfold Cnt at h1
    simp only [List.sum_cons, List.length_cons]
    omega
def bump (h : List Int) (c : UInt8) : List Int := h.set c.toNat (min 2147483648 (h.getD c.toNat 0 + 1))
def bumps (h : List Int) (bs : List UInt8) : List Int := bs.foldl bump h
def zeros : List Int := List.replicate 256 0
def histS (bs : List UInt8) : List Int := bumps zeros bs
end Go.Port
namespace Go.Proofs.YtiagbejfghincaaGreat
open Go.RowKit Go.Port
theorem bitLen_log (n : Nat) (h : n ≠ 0) (h1 : n < 2 ^ 64) : Lib.bitLen n = Nat.log2 n + 1 := by
  have := Lib.bitLen_shift (Nat.log2 n) n (log2_lo h) h1
  rw [this]
  have h2 := log2_hi n
  rw [Nat.pow_succ] at h2
  have h3 := log2_lo h
  have e : n / 2 ^ Nat.log2 n = 1 := by
    have hp := Nat.two_pow_pos (Nat.log2 n)
    rw [Nat.div_eq_iff hp]
    omega
  rw [e]
  rfl
set_option maxHeartbeats 400000 in
theorem len_log (n : Int) (w : World) (h0 : 0 < n) (h1 : n < 4611686018427387904) :
    Calls Tryz.prog 118 #[.int .u64 n] w fun e w' => e = .returned (.int .i64 ((Nat.log2 n.toNat : Nat) + 1 : Int)) ∧ w = w' := by
  refine (Tryz.bits_Len n w (by omega) (by omega)).mono ?_
  rintro e w' ⟨he, hw⟩
  rw [bitLen_log n.toNat (by omega) (by omega)] at he
  exact ⟨by rw [he]; rfl, hw.symm⟩
theorem u64_nat (p : Nat) (h1 : p < 4611686018427387904) : IntKind.u64.wrap (p : Int) = p := by rw [IntKind.wrap_u64]; omega
theorem u64_sub (N p : Nat) (h1 : N < 4611686018427387904) (hlo : p ≤ N) : IntKind.u64.wrap ((N : Int) - p) = ((N - p : Nat) : Int) := by rw [IntKind.wrap_u64]; omega
theorem wrap_sum (d k : Nat) (hk : k < 62) (hd : d < 4611686018427387904) : wrap64 ((k : Int) * 256 + wrap64 (d : Int)) = (k : Int) * 256 + d := by
  simp only [wrap64]
  omega
theorem log_hi_aux (N k p q : Nat) (hk : k < 62) (h1 : N < 4611686018427387904) (hlo : p ≤ N) :
    wrap64 ((k : Int) * 256 + wrap64 (IntKind.u64.wrap ((N : Int) - IntKind.u64.wrap (p : Int)) / (q : Int))) = (k : Int) * 256 + (((N - p) / q : Nat) : Int) := by
  have hd := Nat.div_le_self (N - p) q
  rw [u64_nat p (by omega), u64_sub N p h1 hlo, ← Int.natCast_ediv]
  exact wrap_sum _ k hk (by omega)
theorem log_lo_aux (N k p q : Nat) (hk : k < 8) (h1 : N < 4611686018427387904) (hlo : p ≤ N) (hhi : N < p * 2) (hq : p * q = 256) :
    wrap64 ((k : Int) * 256 + wrap64 (IntKind.u64.wrap (IntKind.u64.wrap ((N : Int) - IntKind.u64.wrap (p : Int)) * (q : Int)))) = (k : Int) * 256 + (((N - p) * q : Nat) : Int) := by
  have hle : (N - p) * q ≤ p * q := Nat.mul_le_mul_right q (by omega)
  rw [hq] at hle
  rw [u64_nat p (by omega), u64_sub N p h1 hlo, ← Int.natCast_mul, u64_nat _ (Nat.lt_of_le_of_lt hle (by decide))]
  exact wrap_sum _ k (by omega) (Nat.lt_of_le_of_lt hle (by decide))
theorem two_pow_cast (k : Nat) : (2 : Int) ^ k = ((2 ^ k : Nat) : Int) := by simp
theorem log_hi_eq (n : Int) (k : Nat) (hk : k < 62) (h0 : 0 < n) (h1 : n < 4611686018427387904) (hlo : 2 ^ k ≤ n.toNat) :
    wrap64 ((k : Int) * 256 + wrap64 (IntKind.u64.wrap (n - IntKind.u64.wrap (2 ^ k)) / 2 ^ (k - 8))) = (k : Int) * 256 + (((n.toNat - 2 ^ k) / 2 ^ (k - 8) : Nat) : Int) := by
  have h := log_hi_aux n.toNat k (2 ^ k) (2 ^ (k - 8)) hk (by omega) hlo
  rw [Int.toNat_of_nonneg (Int.le_of_lt h0)] at h
  rw [two_pow_cast k, two_pow_cast (k - 8)]
  exact h
theorem log_lo_eq (n : Int) (k : Nat) (hk : k < 8) (h0 : 0 < n) (h1 : n < 4611686018427387904) (hlo : 2 ^ k ≤ n.toNat) (hhi : n.toNat < 2 ^ k * 2) :
    wrap64 ((k : Int) * 256 + wrap64 (IntKind.u64.wrap (IntKind.u64.wrap (n - IntKind.u64.wrap (2 ^ k)) * 2 ^ (8 - k)))) = (k : Int) * 256 + (((n.toNat - 2 ^ k) * 2 ^ (8 - k) : Nat) : Int) := by
  have h := log_lo_aux n.toNat k (2 ^ k) (2 ^ (8 - k)) hk (by omega) hlo hhi (by rw [← Nat.pow_add, show k + (8 - k) = 8 by omega])
  rw [Int.toNat_of_nonneg (Int.le_of_lt h0)] at h
  rw [two_pow_cast k, two_pow_cast (8 - k)]
  exact h
set_option maxHeartbeats 400000 in
theorem log_any (n : Int) (w : World) (h0 : 0 < n) (h1 : n < 4611686018427387904) :
    Calls Tryz.prog 163 #[.int .i64 n] w fun e w' => e = .returned (.int .i64 (lg n)) ∧ w = w' := by
  have hN : n.toNat ≠ 0 := by omega
  have hk : Nat.log2 n.toNat < 62 := by
    rw [Nat.log2_lt hN]
    show n.toNat < 4611686018427387904
    omega
  have hlo := log2_lo hN
  have hhi := log2_hi n.toNat
  rw [Nat.pow_succ] at hhi
  have hlen := len_log n w h0 h1
  have hlg : lg n = if 8 ≤ Nat.log2 n.toNat then (Nat.log2 n.toNat : Int) * 256 + (((n.toNat - 2 ^ Nat.log2 n.toNat) / 2 ^ (Nat.log2 n.toNat - 8) : Nat) : Int) else (Nat.log2 n.toNat : Int) * 256 + (((n.toNat - 2 ^ Nat.log2 n.toNat) * 2 ^ (8 - Nat.log2 n.toNat) : Nat) : Int) := by
    unfold lg logN
    split <;> omega
  generalize Nat.log2 n.toNat = k at *
  have HC := hid hlen
  clear hlen
  by_cases h8 : 8 ≤ k
  · rw [if_pos h8, ← log_hi_eq n k hk h0 h1 hlo] at hlg
    have HL := hid hlg
    clear hlg
    go_enter Tryz.func163, Tryz.ntmps163
    go_wp2_with (go_at_call 118; refine HC.out.mono ?_; rintro e w' ⟨rfl, rfl⟩)
    go_ret
    exact ⟨ret_i HL.out.symm, rfl⟩
  · rw [if_neg h8, ← log_lo_eq n k (by omega) h0 h1 hlo hhi] at hlg
    have HL := hid hlg
    clear hlg
    go_enter Tryz.func163, Tryz.ntmps163
    go_wp2_with (go_at_call 118; refine HC.out.mono ?_; rintro e w' ⟨rfl, rfl⟩)
    go_ret
    exact ⟨ret_i HL.out.symm, rfl⟩
set_option maxHeartbeats 400000 in
theorem total_any (a : Option Addr) (c : Nat) (l : List Int) (w : World) (hl : l.length ≤ 256) (hcnt : ∀ x ∈ l, Cnt x)
    (hc : ∀ j u, (l.map iv)[j]? = some u → ∃ b off, a = some ⟨b, off, none⟩ ∧ b < w.heap.size ∧ w.cell? ⟨b, off + j, none⟩ = some u) :
    Calls Tryz.prog 145 #[.slice a l.length c] w fun e w' => e = .returned (.int .i64 l.sum) ∧ w = w' := by
  have HC := hid hc
  have HN := hid hcnt
  clear hc hcnt
  go_enter Tryz.func145, Tryz.ntmps145
  go_wp2
  go_loop [2, 7] (fun n i => ∃ k : Nat, k ≤ l.length ∧ i = .int .i64 k ∧ n = .int .i64 (l.take k).sum) (fun _ i => l.length - (intOf i).toNat)
  case atStart => exact ⟨0, Nat.zero_le _, rfl, by simp⟩
  case round =>
    obtain ⟨k, hk, rfl, rfl⟩ := hrel
    by_cases hlt : k < l.length
    · obtain ⟨x, hx⟩ : ∃ x, l[k]? = some x := ⟨l[k], by simp [hlt]⟩
      obtain ⟨b, off, rfl, _, hcell⟩ := HC.out k (iv x) (by simp [hx])
      have hb := sum_bounds (l := l.take k) (fun y hy => HN.out y (List.mem_of_mem_take hy))
      have hxc := HN.out x (List.mem_of_getElem? hx)
      unfold Cnt at hxc
      have hlen : (l.take k).length ≤ 256 := by rw [List.length_take]; omega
      have hsum : (l.take (k + 1)).sum = (l.take k).sum + x := by
        rw [List.take_succ_eq_append_getElem hlt, List.sum_append]
        have : l[k] = x := by simpa [hlt] using hx
        simp [this]
      have HS := hid hsum
      clear hsum hx
      unfold iv at hcell
      go_wp2
      go_round
      case rel => exact ⟨k + 1, by omega, by go_num, by rw [HS.out]⟩
      case measure => simp [intOf]; omega
    · obtain rfl : k = l.length := by omega
      go_wp2
      go_ret
      exact ⟨by simp, rfl⟩
theorem Tryz.info_intN : (Tryz.prog.info? 3).map (fun i => (i.zero, i.size, i.bytes)) = some (some (.int .i64 0), 1, 8) := by kernel_rfl
end Go.Proofs.YtiagbejfghincaaGreat
namespace Go.Proofs.YtiagbejfghincaaGreat
open Go.RowKit Go.Port
theorem field_list (a : Option Addr) (n c : Nat) (w : World) : (Instr.field 202 (.agg #[.slice a n c]) 0).run Tryz.prog w = .ok (.slice a n c) w := by
  kernel_rfl
theorem right1_any (n : Int) (w : World) (h : Cnt n) :
    Calls Tryz.prog 162 #[.int .i64 n] w fun e w' => e = .returned (.bool false) ∧ w = w' := by
  obtain ⟨h0, h1⟩ := h
  have t1 : decide (n < 0) = false := by simp; omega
  have t2 : decide (2147483648 < n) = false := by simp; omega
  go_enter Tryz.func162, Tryz.ntmps162
  go_wp2
  go_ret
  exact ⟨rfl, rfl⟩
set_option maxHeartbeats 400000 in
theorem index_any (a : Option Addr) (c : Nat) (l : List Int) (w : World) (hl : l.length ≤ 256) (hcnt : ∀ x ∈ l, Cnt x)
    (hc : ∀ j u, (l.map iv)[j]? = some u → ∃ b off, a = some ⟨b, off, none⟩ ∧ b < w.heap.size ∧ w.cell? ⟨b, off + j, none⟩ = some u) :
    Calls Tryz.prog 176 #[.slice a l.length c, .func (.func 162) #[] #[]] w fun e w' => e = .returned (.int .i64 (-1)) ∧ w = w' := by
  have HC := hid hc
  have HN := hid hcnt
  clear hc hcnt
  go_enter Tryz.func176, Tryz.ntmps176
  go_wp2
  go_loop [8] (fun i => ∃ k : Nat, k ≤ l.length ∧ i = .int .i64 k) (fun i => l.length - (intOf i).toNat)
  case atStart => exact ⟨0, Nat.zero_le _, rfl⟩
  case round =>
    obtain ⟨k, hk, rfl⟩ := hrel
    by_cases hlt : k < l.length
    · obtain ⟨x, hx⟩ : ∃ x, l[k]? = some x := ⟨l[k], by simp [hlt]⟩
      obtain ⟨b, off, rfl, _, hcell⟩ := HC.out k (iv x) (by simp [hx])
      have HX := hid (HN.out x (List.mem_of_getElem? hx))
      clear hx
      unfold iv at hcell
      go_wp2_with (go_at_call 162; refine (right1_any _ _ HX.out).mono ?_; rintro e w' ⟨rfl, rfl⟩)
      go_round
      case rel => exact ⟨k + 1, by omega, by go_num⟩
      case measure => simp [intOf]; omega
    · obtain rfl : k = l.length := by omega
      go_wp2
      go_ret
      exact ⟨rfl, rfl⟩
set_option maxHeartbeats 400000 in
theorem contains_any (a : Option Addr) (c : Nat) (l : List Int) (w : World) (hl : l.length ≤ 256) (hcnt : ∀ x ∈ l, Cnt x)
    (hc : ∀ j u, (l.map iv)[j]? = some u → ∃ b off, a = some ⟨b, off, none⟩ ∧ b < w.heap.size ∧ w.cell? ⟨b, off + j, none⟩ = some u) :
    Calls Tryz.prog 161 #[.slice a l.length c, .func (.func 162) #[] #[]] w fun e w' => e = .returned (.bool false) ∧ w = w' := by
  have HC := hid (index_any a c l w hl hcnt hc)
  clear hc hcnt
  go_enter Tryz.func161, Tryz.ntmps161
  go_wp2_with (go_at_call 176; refine HC.out.mono ?_; rintro e w' ⟨rfl, rfl⟩)
  go_ret
  exact ⟨rfl, rfl⟩
set_option maxHeartbeats 400000 in
theorem right_any (a : Option Addr) (c : Nat) (l : List Int) (w : World) (hl : l.length ≤ 256) (hcnt : ∀ x ∈ l, Cnt x)
    (hc : ∀ j u, (l.map iv)[j]? = some u → ∃ b off, a = some ⟨b, off, none⟩ ∧ b < w.heap.size ∧ w.cell? ⟨b, off + j, none⟩ = some u) :
    Calls Tryz.prog 142 #[.slice a l.length c] w fun e w' => e = .returned (.bool true) ∧ w = w' := by
  have HC := hid (contains_any a c l w hl hcnt hc)
  clear hc hcnt
  have t1 : decide ((l.length : Int) ≤ 256) = true := by simp; omega
  go_enter Tryz.func142, Tryz.ntmps142
  go_wp2_with (go_at_call 161; refine HC.out.mono ?_; rintro e w' ⟨rfl, rfl⟩)
  go_ret
  exact ⟨rfl, rfl⟩
set_option maxRecDepth 100000 in
set_option maxHeartbeats 400000 in
theorem tcheck_any (a : Option Addr) (c : Nat) (l : List Int) (w : World) (hl : l.length ≤ 256) (hcnt : ∀ x ∈ l, Cnt x)
    (hc : ∀ j u, (l.map iv)[j]? = some u → ∃ b off, a = some ⟨b, off, none⟩ ∧ b < w.heap.size ∧ w.cell? ⟨b, off + j, none⟩ = some u) :
    Calls Tryz.prog 113 #[.slice a l.length c] w fun e w' => e = .returned (.int .i64 0) ∧ w = w' := by
  have HC := hid (right_any a c l w hl hcnt hc)
  have hfd := field_list a l.length c
  clear hc hcnt
  go_enter Tryz.func113, Tryz.ntmps113
  go_wp2_with (go_at_call 142; refine HC.out.mono ?_; rintro e w' ⟨rfl, rfl⟩)
  go_ret
  exact ⟨rfl, rfl⟩
set_option maxRecDepth 100000 in
theorem tlog_any (n : Int) (w : World) (h0 : 0 < n) (h1 : n < 4611686018427387904) :
    Calls Tryz.prog 146 #[.int .i64 n] w fun e w' => e = .returned (.tuple #[.int .i64 (lg n), .int .i64 0]) ∧ w = w' := by
  have HL := hid (log_any n w h0 h1)
  have t1 : ¬ n < 1 := by omega
  have t2 : ¬ 4611686018427387903 < n := by omega
  clear h0 h1
  go_enter Tryz.func146, Tryz.ntmps146
  go_wp2_with (go_at_call 163; refine HL.out.mono ?_; rintro e w' ⟨rfl, rfl⟩)
  refine bodyPost_ret (v := .tuple #[.int .i64 (lg n), .int .i64 0]) (by simp [results, Tryz.results146, go_sem]) rfl ?_
  exact ⟨rfl, rfl⟩
end Go.Proofs.YtiagbejfghincaaGreat
