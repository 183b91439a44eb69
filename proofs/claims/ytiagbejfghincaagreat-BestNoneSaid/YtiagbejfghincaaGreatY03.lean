/-
  The walks of layer 5 (tally), first part (from XTally): bits.Len, log, total.
  The walks of layer 5 (tally), second part (from XTally2): the check of any row, Total, Log2.
  The walks of layer 32 (price), first part: must, caught, log, none, rows.at.
  Plain laws of layer 20 (code): codes of numbers and of offsets, their first values and extra bits. No program in sight.
-/
import Derived.Test.YtiagbejfghincaaGreatRows
import Derived.Test.YtiagbejfghincaaGreatY02
import Derived.Test.YtiagbejfghincaaGreatShelf
import Derived.Recover
import Derived.Defers
import Derived.Laws.Pointers
import Derived.Laws.EntriesVeiled
namespace Go.Proofs.YtiagbejfghincaaGreat
open Go.RowKit Go.Port
theorem bitLen_log (n : Nat) (h : n ≠ 0) (h1 : n < 2 ^ 64) : Lib.bitLen n = Nat.log2 n + 1 := by
  have := Lib.bitLen_shift (Nat.log2 n) n (log2_lo h) h1
  rw [this]
  have h2 := log2_hi n
  rw [Nat.pow_succ] at h2
  have h3 := log2_lo h
  have e : n / 2 ^ Nat.log2 n = 1 := by
    have hp := Nat.two_pow_pos (Nat.log2 n)
    rw [Nat.div_eq_iff hp]
    omega
  rw [e]
  rfl
set_option maxHeartbeats 400000 in
theorem len_log (n : Int) (w : World) (h0 : 0 < n) (h1 : n < 4611686018427387904) :
    Calls Tryz.prog 118 #[.int .u64 n] w fun e w' => e = .returned (.int .i64 ((Nat.log2 n.toNat : Nat) + 1 : Int)) ∧ w = w' := by
  refine (Tryz.bits_Len n w (by omega) (by omega)).mono ?_
  rintro e w' ⟨he, hw⟩
  rw [bitLen_log n.toNat (by omega) (by omega)] at he
  exact ⟨by rw [he]; rfl, hw.symm⟩
theorem u64_nat (p : Nat) (h1 : p < 4611686018427387904) : IntKind.u64.wrap (p : Int) = p := by rw [IntKind.wrap_u64]; omega
theorem u64_sub (N p : Nat) (h1 : N < 4611686018427387904) (hlo : p ≤ N) : IntKind.u64.wrap ((N : Int) - p) = ((N - p : Nat) : Int) := by rw [IntKind.wrap_u64]; omega
theorem wrap_sum (d k : Nat) (hk : k < 62) (hd : d < 4611686018427387904) : wrap64 ((k : Int) * 256 + wrap64 (d : Int)) = (k : Int) * 256 + d := by
  simp only [wrap64]
  omega
theorem log_hi_aux (N k p q : Nat) (hk : k < 62) (h1 : N < 4611686018427387904) (hlo : p ≤ N) :
    wrap64 ((k : Int) * 256 + wrap64 (IntKind.u64.wrap ((N : Int) - IntKind.u64.wrap (p : Int)) / (q : Int))) = (k : Int) * 256 + (((N - p) / q : Nat) : Int) := by
  have hd := Nat.div_le_self (N - p) q
  rw [u64_nat p (by omega), u64_sub N p h1 hlo, ← Int.natCast_ediv]
  exact wrap_sum _ k hk (by omega)
theorem log_lo_aux (N k p q : Nat) (hk : k < 8) (h1 : N < 4611686018427387904) (hlo : p ≤ N) (hhi : N < p * 2) (hq : p * q = 256) :
    wrap64 ((k : Int) * 256 + wrap64 (IntKind.u64.wrap (IntKind.u64.wrap ((N : Int) - IntKind.u64.wrap (p : Int)) * (q : Int)))) = (k : Int) * 256 + (((N - p) * q : Nat) : Int) := by
  have hle : (N - p) * q ≤ p * q := Nat.mul_le_mul_right q (by omega)
  rw [hq] at hle
  rw [u64_nat p (by omega), u64_sub N p h1 hlo, ← Int.natCast_mul, u64_nat _ (Nat.lt_of_le_of_lt hle (by decide))]
  exact wrap_sum _ k (by omega) (Nat.lt_of_le_of_lt hle (by decide))
theorem two_pow_cast (k : Nat) : (2 : Int) ^ k = ((2 ^ k : Nat) : Int) := by simp
theorem log_hi_eq (n : Int) (k : Nat) (hk : k < 62) (h0 : 0 < n) (h1 : n < 4611686018427387904) (hlo : 2 ^ k ≤ n.toNat) :
    wrap64 ((k : Int) * 256 + wrap64 (IntKind.u64.wrap (n - IntKind.u64.wrap (2 ^ k)) / 2 ^ (k - 8))) = (k : Int) * 256 + (((n.toNat - 2 ^ k) / 2 ^ (k - 8) : Nat) : Int) := by
  have h := log_hi_aux n.toNat k (2 ^ k) (2 ^ (k - 8)) hk (by omega) hlo
  rw [Int.toNat_of_nonneg (Int.le_of_lt h0)] at h
  rw [two_pow_cast k, two_pow_cast (k - 8)]
  exact h
theorem log_lo_eq (n : Int) (k : Nat) (hk : k < 8) (h0 : 0 < n) (h1 : n < 4611686018427387904) (hlo : 2 ^ k ≤ n.toNat) (hhi : n.toNat < 2 ^ k * 2) :
    wrap64 ((k : Int) * 256 + wrap64 (IntKind.u64.wrap (IntKind.u64.wrap (n - IntKind.u64.wrap (2 ^ k)) * 2 ^ (8 - k)))) = (k : Int) * 256 + (((n.toNat - 2 ^ k) * 2 ^ (8 - k) : Nat) : Int) := by
  have h := log_lo_aux n.toNat k (2 ^ k) (2 ^ (8 - k)) hk (by omega) hlo hhi (by rw [← Nat.pow_add, show k + (8 - k) = 8 by omega])
  rw [Int.toNat_of_nonneg (Int.le_of_lt h0)] at h
  rw [two_pow_cast k, two_pow_cast (8 - k)]
  exact h
set_option maxHeartbeats 400000 in
theorem log_any (n : Int) (w : World) (h0 : 0 < n) (h1 : n < 4611686018427387904) :
    Calls Tryz.prog 163 #[.int .i64 n] w fun e w' => e = .returned (.int .i64 (lg n)) ∧ w = w' := by
  have hN : n.toNat ≠ 0 := by omega
  have hk : Nat.log2 n.toNat < 62 := by
    rw [Nat.log2_lt hN]
    show n.toNat < 4611686018427387904
    omega
  have hlo := log2_lo hN
  have hhi := log2_hi n.toNat
  rw [Nat.pow_succ] at hhi
  have hlen := len_log n w h0 h1
  have hlg : lg n = if 8 ≤ Nat.log2 n.toNat then (Nat.log2 n.toNat : Int) * 256 + (((n.toNat - 2 ^ Nat.log2 n.toNat) / 2 ^ (Nat.log2 n.toNat - 8) : Nat) : Int) else (Nat.log2 n.toNat : Int) * 256 + (((n.toNat - 2 ^ Nat.log2 n.toNat) * 2 ^ (8 - Nat.log2 n.toNat) : Nat) : Int) := by
    unfold lg logN
    split <;> omega
  generalize Nat.log2 n.toNat = k at *
  have HC := hid hlen
  clear hlen
  by_cases h8 : 8 ≤ k
  · rw [if_pos h8, ← log_hi_eq n k hk h0 h1 hlo] at hlg
    have HL := hid hlg
    clear hlg
    go_enter Tryz.func163, Tryz.ntmps163
    go_wp2_with (go_at_call 118; refine HC.out.mono ?_; rintro e w' ⟨rfl, rfl⟩)
    go_ret
    exact ⟨ret_i HL.out.symm, rfl⟩
  · rw [if_neg h8, ← log_lo_eq n k (by omega) h0 h1 hlo hhi] at hlg
    have HL := hid hlg
    clear hlg
    go_enter Tryz.func163, Tryz.ntmps163
    go_wp2_with (go_at_call 118; refine HC.out.mono ?_; rintro e w' ⟨rfl, rfl⟩)
    go_ret
    exact ⟨ret_i HL.out.symm, rfl⟩
set_option maxHeartbeats 400000 in
theorem total_any (a : Option Addr) (c : Nat) (l : List Int) (w : World) (hl : l.length ≤ 256) (hcnt : ∀ x ∈ l, Cnt x)
    (hc : ∀ j u, (l.map iv)[j]? = some u → ∃ b off, a = some ⟨b, off, none⟩ ∧ b < w.heap.size ∧ w.cell? ⟨b, off + j, none⟩ = some u) :
    Calls Tryz.prog 145 #[.slice a l.length c] w fun e w' => e = .returned (.int .i64 l.sum) ∧ w = w' := by
  have HC := hid hc
  have HN := hid hcnt
  clear hc hcnt
  go_enter Tryz.func145, Tryz.ntmps145
  go_wp2
  go_loop [2, 7] (fun n i => ∃ k : Nat, k ≤ l.length ∧ i = .int .i64 k ∧ n = .int .i64 (l.take k).sum) (fun _ i => l.length - (intOf i).toNat)
  case atStart => exact ⟨0, Nat.zero_le _, rfl, by simp⟩
  case round =>
    obtain ⟨k, hk, rfl, rfl⟩ := hrel
    by_cases hlt : k < l.length
    · obtain ⟨x, hx⟩ : ∃ x, l[k]? = some x := ⟨l[k], by simp [hlt]⟩
      obtain ⟨b, off, rfl, _, hcell⟩ := HC.out k (iv x) (by simp [hx])
      have hb := sum_bounds (l := l.take k) (fun y hy => HN.out y (List.mem_of_mem_take hy))
      have hxc := HN.out x (List.mem_of_getElem? hx)
      unfold Cnt at hxc
      have hlen : (l.take k).length ≤ 256 := by rw [List.length_take]; omega
      have hsum : (l.take (k + 1)).sum = (l.take k).sum + x := by
        rw [List.take_succ_eq_append_getElem hlt, List.sum_append]
        have : l[k] = x := by simpa [hlt] using hx
        simp [this]
      have HS := hid hsum
      clear hsum hx
      unfold iv at hcell
      go_wp2
      go_round
      case rel => exact ⟨k + 1, by omega, by go_num, by rw [HS.out]⟩
      case measure => simp [intOf]; omega
    · obtain rfl : k = l.length := by omega
      go_wp2
      go_ret
      exact ⟨by simp, rfl⟩
theorem Tryz.info_intN : (Tryz.prog.info? 3).map (fun i => (i.zero, i.size, i.bytes)) = some (some (.int .i64 0), 1, 8) := by kernel_rfl
end Go.Proofs.YtiagbejfghincaaGreat
namespace Go.Proofs.YtiagbejfghincaaGreat
open Go.RowKit Go.Port
theorem field_list (a : Option Addr) (n c : Nat) (w : World) : (Instr.field 202 (.agg #[.slice a n c]) 0).run Tryz.prog w = .ok (.slice a n c) w := by
  kernel_rfl
theorem right1_any (n : Int) (w : World) (h : Cnt n) :
    Calls Tryz.prog 162 #[.int .i64 n] w fun e w' => e = .returned (.bool false) ∧ w = w' := by
  obtain ⟨h0, h1⟩ := h
  have t1 : decide (n < 0) = false := by simp; omega
  have t2 : decide (2147483648 < n) = false := by simp; omega
  go_enter Tryz.func162, Tryz.ntmps162
  go_wp2
  go_ret
  exact ⟨rfl, rfl⟩
set_option maxHeartbeats 400000 in
theorem index_any (a : Option Addr) (c : Nat) (l : List Int) (w : World) (hl : l.length ≤ 256) (hcnt : ∀ x ∈ l, Cnt x)
    (hc : ∀ j u, (l.map iv)[j]? = some u → ∃ b off, a = some ⟨b, off, none⟩ ∧ b < w.heap.size ∧ w.cell? ⟨b, off + j, none⟩ = some u) :
    Calls Tryz.prog 176 #[.slice a l.length c, .func (.func 162) #[] #[]] w fun e w' => e = .returned (.int .i64 (-1)) ∧ w = w' := by
  have HC := hid hc
  have HN := hid hcnt
  clear hc hcnt
  go_enter Tryz.func176, Tryz.ntmps176
  go_wp2
  go_loop [8] (fun i => ∃ k : Nat, k ≤ l.length ∧ i = .int .i64 k) (fun i => l.length - (intOf i).toNat)
  case atStart => exact ⟨0, Nat.zero_le _, rfl⟩
  case round =>
    obtain ⟨k, hk, rfl⟩ := hrel
    by_cases hlt : k < l.length
    · obtain ⟨x, hx⟩ : ∃ x, l[k]? = some x := ⟨l[k], by simp [hlt]⟩
      obtain ⟨b, off, rfl, _, hcell⟩ := HC.out k (iv x) (by simp [hx])
      have HX := hid (HN.out x (List.mem_of_getElem? hx))
      clear hx
      unfold iv at hcell
      go_wp2_with (go_at_call 162; refine (right1_any _ _ HX.out).mono ?_; rintro e w' ⟨rfl, rfl⟩)
      go_round
      case rel => exact ⟨k + 1, by omega, by go_num⟩
      case measure => simp [intOf]; omega
    · obtain rfl : k = l.length := by omega
      go_wp2
      go_ret
      exact ⟨rfl, rfl⟩
set_option maxHeartbeats 400000 in
theorem contains_any (a : Option Addr) (c : Nat) (l : List Int) (w : World) (hl : l.length ≤ 256) (hcnt : ∀ x ∈ l, Cnt x)
    (hc : ∀ j u, (l.map iv)[j]? = some u → ∃ b off, a = some ⟨b, off, none⟩ ∧ b < w.heap.size ∧ w.cell? ⟨b, off + j, none⟩ = some u) :
    Calls Tryz.prog 161 #[.slice a l.length c, .func (.func 162) #[] #[]] w fun e w' => e = .returned (.bool false) ∧ w = w' := by
  have HC := hid (index_any a c l w hl hcnt hc)
  clear hc hcnt
  go_enter Tryz.func161, Tryz.ntmps161
  go_wp2_with (go_at_call 176; refine HC.out.mono ?_; rintro e w' ⟨rfl, rfl⟩)
  go_ret
  exact ⟨rfl, rfl⟩
set_option maxHeartbeats 400000 in
theorem right_any (a : Option Addr) (c : Nat) (l : List Int) (w : World) (hl : l.length ≤ 256) (hcnt : ∀ x ∈ l, Cnt x)
    (hc : ∀ j u, (l.map iv)[j]? = some u → ∃ b off, a = some ⟨b, off, none⟩ ∧ b < w.heap.size ∧ w.cell? ⟨b, off + j, none⟩ = some u) :
    Calls Tryz.prog 142 #[.slice a l.length c] w fun e w' => e = .returned (.bool true) ∧ w = w' := by
  have HC := hid (contains_any a c l w hl hcnt hc)
  clear hc hcnt
  have t1 : decide ((l.length : Int) ≤ 256) = true := by simp; omega
  go_enter Tryz.func142, Tryz.ntmps142
  go_wp2_with (go_at_call 161; refine HC.out.mono ?_; rintro e w' ⟨rfl, rfl⟩)
  go_ret
  exact ⟨rfl, rfl⟩
set_option maxRecDepth 100000 in
set_option maxHeartbeats 400000 in
theorem tcheck_any (a : Option Addr) (c : Nat) (l : List Int) (w : World) (hl : l.length ≤ 256) (hcnt : ∀ x ∈ l, Cnt x)
    (hc : ∀ j u, (l.map iv)[j]? = some u → ∃ b off, a = some ⟨b, off, none⟩ ∧ b < w.heap.size ∧ w.cell? ⟨b, off + j, none⟩ = some u) :
    Calls Tryz.prog 113 #[.slice a l.length c] w fun e w' => e = .returned (.int .i64 0) ∧ w = w' := by
  have HC := hid (right_any a c l w hl hcnt hc)
  have hfd := field_list a l.length c
  clear hc hcnt
  go_enter Tryz.func113, Tryz.ntmps113
  go_wp2_with (go_at_call 142; refine HC.out.mono ?_; rintro e w' ⟨rfl, rfl⟩)
  go_ret
  exact ⟨rfl, rfl⟩
set_option maxRecDepth 100000 in
theorem tlog_any (n : Int) (w : World) (h0 : 0 < n) (h1 : n < 4611686018427387904) :
    Calls Tryz.prog 146 #[.int .i64 n] w fun e w' => e = .returned (.tuple #[.int .i64 (lg n), .int .i64 0]) ∧ w = w' := by
  have HL := hid (log_any n w h0 h1)
  have t1 : ¬ n < 1 := by omega
  have t2 : ¬ 4611686018427387903 < n := by omega
  clear h0 h1
  go_enter Tryz.func146, Tryz.ntmps146
  go_wp2_with (go_at_call 163; refine HL.out.mono ?_; rintro e w' ⟨rfl, rfl⟩)
  refine bodyPost_ret (v := .tuple #[.int .i64 (lg n), .int .i64 0]) (by simp [results, Tryz.results146, go_sem]) rfl ?_
  exact ⟨rfl, rfl⟩
end Go.Proofs.YtiagbejfghincaaGreat
namespace Go.Proofs.YtiagbejfghincaaGreat
open Go.RowKit Go.Port
set_option maxRecDepth 100000 in
theorem prmust_ok (b : Nat) (w : World) (h : w.cell? ⟨b, 0, none⟩ = some (.int .i64 0)) :
    Calls Tryz.prog 87 #[.slice (some ⟨b, 0, none⟩) 1 1] w fun e w' => e = .returned (.tuple #[]) ∧ w = w' := by
  go_enter Tryz.func87, Tryz.ntmps87
  go_wp2
  go_loopw [6] (fun i wr => (i = .int .i64 0 ∨ i = .int .i64 1) ∧ wr = w) (fun i _ => 1 - (intOf i).toNat)
  case atStart => exact ⟨.inl rfl, rfl⟩
  case round =>
    obtain ⟨hi, rfl⟩ := hrel
    rcases hi with rfl | rfl
    · go_wp2
      go_roundw
      case rel => exact ⟨.inr rfl, trivial⟩
      case measure => simp [intOf]
    · go_wp2
      go_end0
      exact ⟨rfl, rfl⟩
set_option maxRecDepth 100000 in
theorem prmust_bad (b : Nat) (n : Int) (w : World) (h : w.cell? ⟨b, 0, none⟩ = some (.int .i64 n)) (hn : ¬ n = 0) :
    Calls Tryz.prog 87 #[.slice (some ⟨b, 0, none⟩) 1 1] w fun e w' => e = .panicked [{ v := .iface 46 (.int .i64 n), recovered := false }] ∧ w = w' := by
  go_enter Tryz.func87, Tryz.ntmps87
  go_wp2
  go_loopw [6] (fun i wr => i = .int .i64 0 ∧ wr = w) (fun i _ => 1 - (intOf i).toNat)
  case atStart => exact ⟨rfl, rfl⟩
  case round =>
    obtain ⟨rfl, rfl⟩ := hrel
    go_wp2
    exact ⟨rfl, rfl, rfl⟩
set_option maxRecDepth 100000 in
theorem prlog_any (n : Int) (w : World) (h0 : 0 < n) (h1 : n < 4611686018427387904) :
    Calls Tryz.prog 116 #[.int .i64 n] w (RetV w (.int .i64 (lg n))) := by
  have HL := hid (tlog_any n w h0 h1)
  have HB := hid (below_new w (.cells #[.int .i64 0] 46))
  have HM := hid (prmust_ok w.heap.size (w.alloc (.cells #[.int .i64 0] 46)) ((Blk.new w [.int .i64 0] 46).cell (k := 0) rfl))
  clear h0 h1
  go_enter Tryz.func116, Tryz.ntmps116
  go_wp2_with fail
  refine HL.out.mono ?_
  rintro e w' ⟨rfl, rfl⟩
  go_wp2_with fail
  refine HM.out.mono ?_
  rintro e w' ⟨rfl, rfl⟩
  go_wp2
  go_ret
  exact ⟨rfl, HB.out⟩
theorem priface_nil (w : World) : (binOp BinOp.neq 20 .nilIface .nilIface).run Tryz.prog w = .ok (.bool false) w := by kernel_rfl
theorem priface_err (n : Int) (w : World) : (binOp BinOp.neq 20 (.iface 46 (.int .i64 n)) .nilIface).run Tryz.prog w = .ok (.bool true) w := by kernel_rfl
theorem priface_is (n : Int) (w : World) : (Instr.typeAssert (.iface 46 (.int .i64 n)) 20 46 true).run Tryz.prog w = .ok (.tuple #[.int .i64 n, .bool true]) w := by kernel_rfl
set_option maxRecDepth 100000 in
set_option maxHeartbeats 400000 in
theorem prcaught_idle (p : Addr) (v : Value) (w : World) :
    CallsD Tryz.prog 54 #[.pointer (some p), v] .returning w fun e u' w' => e = .returned (.tuple #[]) ∧ u' = .returning ∧ w' = w := by
  have hnil := priface_nil
  refine callsD_of_wpS Tryz.func54 rfl fun c₀ cs hu => ?_
  simp only [Tryz.ntmps54, List.size_toArray, List.length_cons, List.length_nil, Nat.reduceAdd, Nat.reduceSub, Array.replicate_succ,
     Array.replicate_zero, List.push_toArray, List.append_toArray, List.nil_append, List.cons_append]
  apply wpS_seq
  apply wpS_region
  generalize hQ : (Exit.thenS _ _ : Exit → Act → List Frame → World → Prop) = Q
  simp [wpOpsS, go_sem, recoverD, hu]
  subst hQ
  dsimp only [Exit.thenS]
  refine wpS_of_wp ?_
  go_wp2
  exact ⟨rfl, .returning, by cases c₀; simp_all, .tuple #[], results_none rfl _ _ _, rfl, rfl, rfl⟩
set_option maxRecDepth 100000 in
set_option maxHeartbeats 400000 in
/-- caught behind a panic of the number n: the closure that clears is called, then the error is stored. -/
theorem prcaught_err (p : Addr) (n x : Int) (f : FuncId) (cap : Array Value) (w w1 : World) (hen : ∀ args w, (callFunc f args).run Tryz.prog w = .ok (.enter f args) w) (hf : Calls Tryz.prog f cap w fun e w' => e = .returned (.tuple #[]) ∧ w1 = w') (hc : w1.cell? p = some (.int .i64 x)) (hz : w1.frozen? p = false) :
    CallsD Tryz.prog 54 #[.pointer (some p), .func (.func f) #[] cap] (.panicking [{ v := .iface 46 (.int .i64 n), recovered := false }]) w fun e u' w' =>
      e = .returned (.tuple #[]) ∧ u' = .panicking [{ v := .iface 46 (.int .i64 n), recovered := true }] ∧ w' = w1.setCell p (.int .i64 n) := by
  have herr := priface_err n
  have hta := priface_is n
  refine callsD_of_wpS Tryz.func54 rfl fun c₀ cs hu => ?_
  simp only [Tryz.ntmps54, List.size_toArray, List.length_cons, List.length_nil, Nat.reduceAdd, Nat.reduceSub, Array.replicate_succ,
     Array.replicate_zero, List.push_toArray, List.append_toArray, List.nil_append, List.cons_append]
  apply wpS_seq
  apply wpS_region
  generalize hQ : (Exit.thenS _ _ : Exit → Act → List Frame → World → Prop) = Q
  simp [wpOpsS, go_sem, recoverD, hu]
  subst hQ
  dsimp only [Exit.thenS]
  refine wpS_of_wp ?_
  go_wp2_with fail
  refine hf.mono ?_
  rintro e w' ⟨rfl, rfl⟩
  go_wp2
  exact ⟨rfl, _, by cases c₀; simp_all, .tuple #[], results_none rfl _ _ _, rfl, rfl, rfl⟩
end Go.Proofs.YtiagbejfghincaaGreat
namespace Go.Port
def ebits (off : Bool) (c : Nat) : Nat := if off then c else if c < 16 then 0 else c / 2 - 5
def efirst (off : Bool) (c : Nat) : Nat := if off then 2 ^ c else if c < 16 then c else (2 + c % 2) * 2 ^ (c / 2 - 5)
def ecode (off : Bool) (v : Nat) : Nat := if off then Nat.log2 v else if v < 16 then v else 8 + 2 * Nat.log2 v + v / 2 ^ (Nat.log2 v - 1) % 2
def ecodes (off : Bool) : Nat := if off then 28 else 44
def ebelow (off : Bool) : Nat := if off then 268435456 else 262144
def eleast (off : Bool) : Nat := if off then 1 else 0
theorem efirst_next : ∀ (off : Bool) (c : Nat), c < ecodes off → efirst off (c + 1) = efirst off c + 2 ^ ebits off c := by decide
theorem efirst_end : ∀ off : Bool, efirst off (ecodes off) = ebelow off := by decide
theorem efirst_le {off : Bool} {a b : Nat} (h : a ≤ b) (hb : b ≤ ecodes off) : efirst off a ≤ efirst off b := by
  induction b with
  | zero =>
    obtain rfl : a = 0 := by omega
    exact Nat.le_refl _
  | succ b ih =>
    by_cases e : a = b + 1
    · subst e; exact Nat.le_refl _
    · have h1 := ih (by omega) (by omega)
      rw [efirst_next off b (by omega)]
      exact Nat.le_trans h1 (Nat.le_add_right _ _)
theorem ecode_spec {off : Bool} {v : Nat} (h0 : eleast off ≤ v) (h1 : v < ebelow off) : ecode off v < ecodes off ∧ efirst off (ecode off v) ≤ v ∧ v < efirst off (ecode off v + 1) := by
  cases off with
  | true =>
    unfold eleast ebelow at *
    unfold ecode ecodes efirst
    simp only [if_true] at *
    have hv : v ≠ 0 := by omega
    refine ⟨(Nat.log2_lt hv).2 (by omega), log2_lo hv, log2_hi v⟩
  | false =>
    unfold eleast ebelow at *
    unfold ecode ecodes
    simp only [Bool.false_eq_true, if_false] at *
    by_cases hs : v < 16
    · rw [if_pos hs]
      refine ⟨by omega, ?_, ?_⟩
      · unfold efirst; simp only [Bool.false_eq_true, if_false]; rw [if_pos hs]; exact Nat.le_refl _
      · unfold efirst
        simp only [Bool.false_eq_true, if_false]
        split
        · omega
        · obtain rfl : v = 15 := by omega
          decide
    · rw [if_neg hs]
      have hv : v ≠ 0 := by omega
      have hk1 : 4 ≤ Nat.log2 v := (Nat.le_log2 hv).2 (by omega)
      have hk2 : Nat.log2 v < 18 := (Nat.log2_lt hv).2 (by omega)
      have lo := log2_lo hv
      have hi := log2_hi v
      generalize Nat.log2 v = k at *
      obtain ⟨m, rfl⟩ : ∃ m, k = m + 1 := ⟨k - 1, by omega⟩
      rw [Nat.add_sub_cancel] at *
      have hp : 0 < 2 ^ m := Nat.two_pow_pos m
      have e1 : 2 ^ (m + 1) = 2 ^ m * 2 := Nat.pow_succ ..
      have e2 : 2 ^ (m + 1 + 1) = 2 ^ m * 4 := by rw [Nat.pow_succ, e1]; omega
      rw [e1] at lo
      rw [e2] at hi
      have hq1 : 2 ≤ v / 2 ^ m := (Nat.le_div_iff_mul_le hp).2 (by omega)
      have hq2 : v / 2 ^ m < 4 := (Nat.div_lt_iff_lt_mul hp).2 (by omega)
      have hd := Nat.div_add_mod v (2 ^ m)
      have hr := Nat.mod_lt v hp
      have hF : ∀ b, b < 2 → efirst false (8 + 2 * (m + 1) + b) = (2 + b) * 2 ^ m := fun b hb => by
        unfold efirst
        simp only [Bool.false_eq_true, if_false]
        rw [if_neg (by omega), show (8 + 2 * (m + 1) + b) % 2 = b by omega, show (8 + 2 * (m + 1) + b) / 2 - 5 = m by omega]
      have hF2 : efirst false (8 + 2 * (m + 1) + 2) = 4 * 2 ^ m := by
        unfold efirst
        simp only [Bool.false_eq_true, if_false]
        rw [if_neg (by omega), show (8 + 2 * (m + 1) + 2) % 2 = 0 by omega, show (8 + 2 * (m + 1) + 2) / 2 - 5 = m + 1 by omega, e1]
        omega
      generalize 2 ^ m = X at *
      have hc : v / X = 2 ∨ v / X = 3 := by omega
      rcases hc with hc | hc
      · rw [hc] at hd ⊢
        refine ⟨by omega, ?_, ?_⟩
        · rw [hF (2 % 2) (by omega)]; omega
        · rw [show 8 + 2 * (m + 1) + 2 % 2 + 1 = 8 + 2 * (m + 1) + 1 by omega, hF 1 (by omega)]; omega
      · rw [hc] at hd ⊢
        refine ⟨by omega, ?_, ?_⟩
        · rw [hF (3 % 2) (by omega)]; omega
        · rw [show 8 + 2 * (m + 1) + 3 % 2 + 1 = 8 + 2 * (m + 1) + 2 by omega, hF2]; omega
/-- The code of a value is the first behind whose values it does not lie. -/
theorem ecode_is {off : Bool} {v c : Nat} (h0 : eleast off ≤ v) (h1 : v < ebelow off) (hc : c < ecodes off) (ha : efirst off c ≤ v) (hb : v < efirst off (c + 1)) : ecode off v = c := by
  obtain ⟨s1, s2, s3⟩ := ecode_spec h0 h1
  rcases Nat.lt_trichotomy (ecode off v) c with h | h | h
  · have := efirst_le (off := off) (a := ecode off v + 1) (b := c) (by omega) (by omega)
    omega
  · exact h
  · have := efirst_le (off := off) (a := c + 1) (b := ecode off v) (by omega) (by omega)
    omega
end Go.Port
