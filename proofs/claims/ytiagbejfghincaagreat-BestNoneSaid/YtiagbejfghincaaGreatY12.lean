/-
  (From XRef5 and XTally3.) The walks of the histogram of one part, and of the reference of layer 5: counts, the logarithm by doublings.
-/
import Derived.Test.YtiagbejfghincaaGreatY03
import Derived.Deep.OwnRows
namespace Go.Proofs.YtiagbejfghincaaGreat
open Go.RowKit Go.Port
theorem Tryz.zeros84 : Tryz.zeroCells148 = (zeros.map iv).toArray := by kernel_rfl
theorem bump_step (bs : List UInt8) (k : Nat) (x : UInt8) (hx : bs[k]? = some x) (h : List Int) : bumps h (bs.take (k + 1)) = bump (bumps h (bs.take k)) x := by
  have hlt : k < bs.length := (List.getElem?_eq_some_iff.1 hx).1
  have e : bs[k] = x := by simpa [hlt] using hx
  rw [List.take_succ_eq_append_getElem hlt, e, bumps_snoc]
theorem bump_set (h : List Int) (x : UInt8) (c : Int) (hc : h[x.toNat]? = some c) : (bump h x).map iv = (h.map iv).set x.toNat (.int .i64 (min 2147483648 (c + 1))) := by
  unfold bump
  rw [List.map_set, List.getD_eq_getElem?_getD, hc]
  rfl
set_option maxRecDepth 100000 in
set_option maxHeartbeats 800000 in
theorem hist_one (a0 : Addr) (c0 : Nat) (a : Option Addr) (n c : Nat) (bs : List UInt8) (w : World) (hn : bs.length = n) (hm : n ≤ maxLen) (h0 : w.cell? a0 = some (.slice a n c))
    (hc : ∀ j u, (bs.map bv)[j]? = some u → ∃ b off, a = some ⟨b, off, none⟩ ∧ b < w.heap.size ∧ w.cell? ⟨b, off + j, none⟩ = some u) :
    Calls Tryz.prog 56 #[.slice (some a0) 1 c0] w fun e w' => ∃ v, e = .returned v ∧ ∃ b, v = .slice (some ⟨b, 0, none⟩) 256 256 ∧ Blk w' b ((histS bs).map iv) 148 ∧ Below w.heap.size w w' := by
  have hlt0 : a0.block < w.heap.size := World.block_lt_of_cell? w a0 h0
  have HC := hid hc
  have hz := Tryz.zeros84
  have hx256 : ∀ x : UInt8, x.toNat < 256 := fun x => x.toNat_lt
  clear hc
  unfold maxLen at hm
  go_enter Tryz.func56, Tryz.ntmps56
  go_wp2
  go_loopw [10] (fun i wr => ∃ k : Nat, k ≤ 1 ∧ i = .int .i64 k ∧ Blk wr w.heap.size ((if k = 0 then zeros else histS bs).map iv) 148 ∧ Below w.heap.size w wr) (fun i _ => 1 - (intOf i).toNat)
  case atStart => exact ⟨0, by omega, rfl, Blk.new w _ _, below_new w _⟩
  case round =>
    obtain ⟨k, hk, rfl, hB, hb⟩ := hrel
    by_cases hlt : k < 1
    · obtain rfl : k = 0 := by omega
      rw [if_pos rfl] at hB
      have h0r := (hb.cell hlt0).trans h0
      go_wp2
      go_loopw [16] (fun i wr => ∃ k : Nat, k ≤ n ∧ i = .int .i64 k ∧ Blk wr w.heap.size ((bumps zeros (bs.take k)).map iv) 148 ∧ Below w.heap.size w wr) (fun i _ => n - (intOf i).toNat)
      case atStart => exact ⟨0, by omega, rfl, hB, hb⟩
      case round =>
        obtain ⟨k, hk, rfl, hB, hb⟩ := hrel
        by_cases hlt : k < n
        · obtain ⟨x, hx⟩ : ∃ x, bs[k]? = some x := ⟨bs[k]'(by omega), by simp [hn, hlt]⟩
          obtain ⟨b, off, rfl, hbl, hcell0⟩ := HC.out k (bv x) (by simp [hx])
          have hcell := (hb.cell (p := ⟨b, off + k, none⟩) hbl).trans hcell0
          have hx2 := hx256 x
          obtain ⟨q, hq⟩ : ∃ q, (bumps zeros (bs.take k))[x.toNat]? = some q := ⟨(bumps zeros (bs.take k))[x.toNat]'(by rw [bumps_length, zeros_length]; exact hx2), by rw [List.getElem?_eq_getElem]⟩
          have hqc := hB.cell (k := x.toNat) (u := .int .i64 q) (by rw [List.getElem?_map, hq]; rfl)
          have hqf := hB.frozen x.toNat
          have hcq := bumps_cnt zeros_cnt (bs.take k) q (List.mem_of_getElem? hq)
          unfold Cnt at hcq
          have HS := hid (bump_step bs k x hx zeros)
          have HSet := hid (bump_set _ x q hq)
          clear hx hcell0 hq
          unfold bv at hcell
          generalize hX : x.toNat = X at *
          go_wp2
          go_roundw
          case rel =>
            refine ⟨k + 1, by omega, by go_num, ?_, hb.setCell (Nat.le_refl _) _⟩
            have := hB.set X (.int .i64 (min 2147483648 (q + 1)))
            rw [HS.out, HSet.out]
            simpa only [Int.min_def] using this
          case measure => simp [intOf]; omega
        · obtain rfl : k = n := by omega
          go_wp2
          go_roundw
          case rel => exact ⟨1, by omega, by go_num, by rw [List.take_of_length_le (by omega)] at hB; rw [if_neg (by decide)]; exact hB, hb⟩
          case measure => simp [intOf]
    · obtain rfl : k = 1 := by omega
      go_wp2
      go_ret
      exact ⟨_, rfl, _, rfl, hB, hb⟩
theorem dbls_bounds (p K m i : Nat) (hp : 0 < p) (hm : m < p) (hi : i ≤ 8) (hK : K < 62) : (dbls p i (K, m)).1 < 20000 ∧ (dbls p i (K, m)).2 < p := by
  rw [dbls_spec p K m hp hm]
  have h1 : 2 ^ i ≤ 2 ^ 8 := Nat.pow_le_pow_right (by decide) hi
  have h2 : m * 2 ^ i / p < 2 ^ i := by
    rw [Nat.div_lt_iff_lt_mul hp, Nat.mul_comm]
    exact Nat.mul_lt_mul_of_pos_left hm (Nat.two_pow_pos i)
  have h3 : K * 2 ^ i ≤ K * 2 ^ 8 := Nat.mul_le_mul_left K h1
  exact ⟨by dsimp only; omega, Nat.mod_lt _ hp⟩
theorem half_le (n p : Nat) (h : p ≤ n / 2) : p * 2 ≤ n := by omega
theorem half_gt (n p : Nat) (h : ¬ p ≤ n / 2) : n < p * 2 := by omega
set_option maxRecDepth 100000 in
set_option maxHeartbeats 800000 in
theorem rlog_any (n : Int) (w : World) (h0 : 0 < n) (h1 : n < 4611686018427387904) :
    Calls Tryz.prog 103 #[.int .i64 n] w fun e w' => e = .returned (.int .i64 (lg n)) ∧ w = w' := by
  obtain ⟨N, rfl⟩ : ∃ N : Nat, n = (N : Int) := ⟨n.toNat, by omega⟩
  have hN : N ≠ 0 := by omega
  have hk : Nat.log2 N < 62 := by
    rw [Nat.log2_lt hN]
    show N < 4611686018427387904
    omega
  have hlo := log2_lo hN
  have hhi := log2_hi N
  rw [Nat.pow_succ] at hhi
  have HL := hid (logN_dbls N hN)
  have HB := hid (fun i hi => dbls_bounds (2 ^ Nat.log2 N) (Nat.log2 N) (N - 2 ^ Nat.log2 N) i (Nat.two_pow_pos _) (by omega) hi hk)
  go_enter Tryz.func103, Tryz.ntmps103
  go_wp2
  go_loop [3, 4] (fun k p => ∃ K P : Nat, k = .int .i64 K ∧ p = .int .i64 P ∧ Hid (P = 2 ^ K) ∧ K < 62 ∧ P ≤ N) (fun _ p => N - (intOf p).toNat)
  case atStart => exact ⟨0, 1, rfl, rfl, hid rfl, by omega, by omega⟩
  case round =>
    obtain ⟨K, P, rfl, rfl, HP, hK, hPN⟩ := hrel
    have hP0 : 0 < P := by rw [HP.out]; exact Nat.two_pow_pos K
    by_cases hlt : P ≤ N / 2
    · have hh := half_le N P hlt
      have hK1 : K + 1 < 62 := by
        have h2 : 2 ^ (K + 1) ≤ N := by rw [Nat.pow_succ, ← HP.out]; exact hh
        have h3 : 2 ^ (K + 1) < 2 ^ 62 := Nat.lt_of_le_of_lt h2 (show N < 4611686018427387904 by omega)
        exact (Nat.pow_lt_pow_iff_right (by decide)).1 h3
      have t1 : decide ((P : Int) ≤ N / 2) = true := by simp; omega
      go_wp2
      go_round
      case rel => exact ⟨K + 1, 2 * P, by go_num, by go_num, hid (by rw [Nat.pow_succ, ← HP.out, Nat.mul_comm]), hK1, by omega⟩
      case measure => simp [intOf]; omega
    · have hh := half_gt N P hlt
      have t1 : decide ((P : Int) ≤ N / 2) = false := by simp; omega
      have hKe : K = Nat.log2 N := by
        have e := HP.out
        have a1 : 2 ^ K < 2 ^ (Nat.log2 N + 1) := by rw [← e, Nat.pow_succ]; omega
        have a2 : 2 ^ Nat.log2 N < 2 ^ (K + 1) := by rw [Nat.pow_succ, ← e]; omega
        have b1 := (Nat.pow_lt_pow_iff_right (a := 2) (by decide)).1 a1
        have b2 := (Nat.pow_lt_pow_iff_right (a := 2) (by decide)).1 a2
        omega
      have HL2 := hid (show (dbls P 8 (K, N - P)).1 = logN N from by rw [HP.out, hKe]; exact HL.out)
      have HB2 := hid (show ∀ i, i ≤ 8 → (dbls P i (K, N - P)).1 < 20000 ∧ (dbls P i (K, N - P)).2 < P from by rw [HP.out, hKe]; exact HB.out)
      have hz : (dbls P 0 (K, N - P)) = (K, N - P) := rfl
      have HKe := hid hKe
      clear hKe
      go_wp2
      go_loop [3, 5, 6] (fun k r i => ∃ (j : Nat) (x y : Int), j ≤ 8 ∧ i = .int .i64 j ∧ k = .int .i64 x ∧ r = .int .i64 y ∧ Hid (x = ((dbls P j (K, N - P)).1 : Nat) ∧ y = ((dbls P j (K, N - P)).2 : Nat))) (fun _ _ i => 8 - (intOf i).toNat)
      case atStart => exact ⟨0, K, (N : Int) - P, by omega, rfl, rfl, rfl, hid (by rw [hz]; omega)⟩
      case round =>
        obtain ⟨j, x, y, hj, rfl, rfl, rfl, HXY⟩ := hrel
        have HZ := hid hz
        clear hz
        by_cases hlt2 : j < 8
        · have hb := HB2.out j (by omega)
          have HD := hid (show dbls P (j + 1) (K, N - P) = dbl P (dbls P j (K, N - P)) from rfl)
          have hxy := HXY.out
          clear HXY
          generalize dbls P j (K, N - P) = D at *
          obtain ⟨D1, D2⟩ := D
          dsimp only at hb hxy
          by_cases hD : P - D2 ≤ D2
          · have HE := hid (show dbls P (j + 1) (K, N - P) = (2 * D1 + 1, D2 - (P - D2)) from by rw [HD.out, dbl, if_pos hD])
            have HV := hid (show 2 * x + 1 = ((2 * D1 + 1 : Nat) : Int) ∧ y - ((P : Int) - y) = ((D2 - (P - D2) : Nat) : Int) from by omega)
            have t2 : (P : Int) - y ≤ y := by omega
            have hx1 : 0 ≤ x ∧ x < 20000 := by omega
            have hy1 : 0 ≤ y ∧ y < P := by omega
            have t3 : (j : Int) < 8 := by omega
            have HJ := hid hlt2
            clear hxy hb hD hlt2 hj
            go_wp2
            go_round
            case rel => exact ⟨j + 1, _, _, HJ.out, by go_num, rfl, rfl, hid (by rw [HE.out]; exact HV.out)⟩
            case measure => simp [intOf]; omega
          · have HE := hid (show dbls P (j + 1) (K, N - P) = (2 * D1, 2 * D2) from by rw [HD.out, dbl, if_neg hD])
            have HV := hid (show 2 * x = ((2 * D1 : Nat) : Int) ∧ 2 * y = ((2 * D2 : Nat) : Int) from by omega)
            have t2 : ¬ (P : Int) - y ≤ y := by omega
            have hx1 : 0 ≤ x ∧ x < 20000 := by omega
            have hy1 : 0 ≤ y ∧ y < P := by omega
            have t3 : (j : Int) < 8 := by omega
            have HJ := hid hlt2
            clear hxy hb hD hlt2 hj
            go_wp2
            go_round
            case rel => exact ⟨j + 1, _, _, HJ.out, by go_num, rfl, rfl, hid (by rw [HE.out]; exact HV.out)⟩
            case measure => simp [intOf]; omega
        · obtain rfl : j = 8 := by omega
          go_wp2
          go_ret
          refine ⟨ret_i ?_, rfl⟩
          rw [HXY.out.1, HL2.out]
          rfl
set_option maxRecDepth 100000 in
set_option maxHeartbeats 800000 in
theorem rcounts_any (a : Option Addr) (n c : Nat) (bs : List UInt8) (w : World) (hn : bs.length = n) (hm : n ≤ maxLen)
    (hc : ∀ j u, (bs.map bv)[j]? = some u → ∃ b off, a = some ⟨b, off, none⟩ ∧ b < w.heap.size ∧ w.cell? ⟨b, off + j, none⟩ = some u) :
    Calls Tryz.prog 61 #[.slice a n c] w fun e w' => ∃ v, e = .returned v ∧ ∃ b, v = .slice (some ⟨b, 0, none⟩) 256 256 ∧ Blk w' b ((histS bs).map iv) 3 ∧ Below w.heap.size w w' := by
  have HC := hid hc
  have hx256 : ∀ x : UInt8, x.toNat < 256 := fun x => x.toNat_lt
  have hz : madeCells #[Value.int .i64 0] 256 = (zeros.map iv).toArray := by kernel_rfl
  have hmk : ∀ W : World, (Instr.makeSlice 23 (.int .i64 256) (.int .i64 256)).run Tryz.prog W = .ok (.slice (some ⟨W.heap.size, 0, none⟩) 256 256) (W.alloc (.cells (zeros.map iv).toArray 3)) := fun W => by
    rw [← hz]
    exact run_make_row' (P := Tryz.prog) 23 3 (.int .i64 0) 8 Tryz.underlying23 Tryz.info_intN rfl .i64 .i64 256 (by decide) (by decide) W
  clear hc hz
  unfold maxLen at hm
  go_enter Tryz.func61, Tryz.ntmps61
  go_wp2
  go_loopw [4] (fun i wr => ∃ k : Nat, k ≤ n ∧ i = .int .i64 k ∧ Blk wr w.heap.size ((bumps zeros (bs.take k)).map iv) 3 ∧ Below w.heap.size w wr) (fun i _ => n - (intOf i).toNat)
  case atStart => exact ⟨0, by omega, rfl, Blk.new w _ _, below_new w _⟩
  case round =>
    obtain ⟨k, hk, rfl, hB, hb⟩ := hrel
    by_cases hlt : k < n
    · obtain ⟨x, hx⟩ : ∃ x, bs[k]? = some x := ⟨bs[k]'(by omega), by simp [hn, hlt]⟩
      obtain ⟨b, off, rfl, hbl, hcell0⟩ := HC.out k (bv x) (by simp [hx])
      have hcell := (hb.cell (p := ⟨b, off + k, none⟩) hbl).trans hcell0
      have hx2 := hx256 x
      obtain ⟨z, hz⟩ : ∃ z, (bumps zeros (bs.take k))[x.toNat]? = some z := ⟨(bumps zeros (bs.take k))[x.toNat]'(by rw [bumps_length, zeros_length]; exact hx2), by rw [List.getElem?_eq_getElem]⟩
      have hqc := hB.cell (k := x.toNat) (u := .int .i64 z) (by rw [List.getElem?_map, hz]; rfl)
      have hqf := hB.frozen x.toNat
      have hcq := bumps_cnt zeros_cnt (bs.take k) z (List.mem_of_getElem? hz)
      unfold Cnt at hcq
      have HS := hid (bump_step bs k x hx zeros)
      have HSet := hid (bump_set _ x z hz)
      clear hx hcell0 hz
      unfold bv at hcell
      generalize hX : x.toNat = X at *
      have t1 : (k : Int) < n := by omega
      have t2 : (X : Int) < 256 := by omega
      have HK := hid hlt
      clear hlt hx2 hk
      go_wp2
      go_region
      go_wp2
      go_roundw
      case rel =>
        refine ⟨k + 1, HK.out, by go_num, ?_, (hb.setCell (Nat.le_refl _) _).drew⟩
        have := hB.set X (.int .i64 (min 2147483648 (z + 1)))
        rw [HS.out, HSet.out]
        exact this
      case measure =>
        have := HK.out
        simp [intOf]; omega
    · obtain rfl : k = n := by omega
      go_wp2
      go_ret
      exact ⟨_, rfl, _, rfl, by rw [List.take_of_length_le (by omega)] at hB; exact hB, hb⟩
end Go.Proofs.YtiagbejfghincaaGreat
