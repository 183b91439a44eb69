/-
  The walks of layer 5, third part: the histogram of one part, a part's price.
-/
import Derived.Test.YtadnhjloeaddnaaTally2
namespace Go.Proofs.Ytadnhjloeaddnaa
open Go.RowKit Go.Port

theorem Try.zeros84 : Try.zeroCells84 = (zeros.map iv).toArray := by kernel_rfl

theorem bump_step (bs : List UInt8) (k : Nat) (x : UInt8) (hx : bs[k]? = some x) (h : List Int) : bumps h (bs.take (k + 1)) = bump (bumps h (bs.take k)) x := by
  have hlt : k < bs.length := (List.getElem?_eq_some_iff.1 hx).1
  have e : bs[k] = x := by simpa [hlt] using hx
  rw [List.take_succ_eq_append_getElem hlt, e, bumps_snoc]

theorem bump_set (h : List Int) (x : UInt8) (c : Int) (hc : h[x.toNat]? = some c) : (bump h x).map iv = (h.map iv).set x.toNat (.int .i64 (min 2147483648 (c + 1))) := by
  unfold bump
  rw [List.map_set, List.getD_eq_getElem?_getD, hc]
  rfl

set_option maxRecDepth 100000 in
set_option maxHeartbeats 800000 in
theorem hist_one (a0 : Addr) (c0 : Nat) (a : Option Addr) (n c : Nat) (bs : List UInt8) (w : World) (hn : bs.length = n) (hm : n ≤ maxLen) (h0 : w.cell? a0 = some (.slice a n c))
    (hc : ∀ j u, (bs.map bv)[j]? = some u → ∃ b off, a = some ⟨b, off, none⟩ ∧ b < w.heap.size ∧ w.cell? ⟨b, off + j, none⟩ = some u) :
    Calls Try.prog 39 #[.slice (some a0) 1 c0] w fun e w' => ∃ v, e = .returned v ∧ ∃ b, v = .slice (some ⟨b, 0, none⟩) 256 256 ∧ Blk w' b ((histS bs).map iv) 84 ∧ Below w.heap.size w w' := by
  have hlt0 : a0.block < w.heap.size := World.block_lt_of_cell? w a0 h0
  have HC := hid hc
  have hz := Try.zeros84
  have hx256 : ∀ x : UInt8, x.toNat < 256 := fun x => x.toNat_lt
  clear hc
  unfold maxLen at hm
  go_enter Try.func39, Try.ntmps39
  go_wp2
  go_loopw [10] (fun i wr => ∃ k : Nat, k ≤ 1 ∧ i = .int .i64 k ∧ Blk wr w.heap.size ((if k = 0 then zeros else histS bs).map iv) 84 ∧ Below w.heap.size w wr) (fun i _ => 1 - (intOf i).toNat)
  case atStart => exact ⟨0, by omega, rfl, Blk.new w _ _, below_new w _⟩
  case round =>
    obtain ⟨k, hk, rfl, hB, hb⟩ := hrel
    by_cases hlt : k < 1
    · obtain rfl : k = 0 := by omega
      rw [if_pos rfl] at hB
      have h0r := (hb.cell hlt0).trans h0
      go_wp2
      go_loopw [16] (fun i wr => ∃ k : Nat, k ≤ n ∧ i = .int .i64 k ∧ Blk wr w.heap.size ((bumps zeros (bs.take k)).map iv) 84 ∧ Below w.heap.size w wr) (fun i _ => n - (intOf i).toNat)
      case atStart => exact ⟨0, by omega, rfl, hB, hb⟩
      case round =>
        obtain ⟨k, hk, rfl, hB, hb⟩ := hrel
        by_cases hlt : k < n
        · obtain ⟨x, hx⟩ : ∃ x, bs[k]? = some x := ⟨bs[k]'(by omega), by simp [hn, hlt]⟩
          obtain ⟨b, off, rfl, hbl, hcell0⟩ := HC.out k (bv x) (by simp [hx])
          have hcell := (hb.cell (p := ⟨b, off + k, none⟩) hbl).trans hcell0
          have hx2 := hx256 x
          obtain ⟨q, hq⟩ : ∃ q, (bumps zeros (bs.take k))[x.toNat]? = some q := ⟨(bumps zeros (bs.take k))[x.toNat]'(by rw [bumps_length, zeros_length]; exact hx2), by rw [List.getElem?_eq_getElem]⟩
          have hqc := hB.cell (k := x.toNat) (u := .int .i64 q) (by rw [List.getElem?_map, hq]; rfl)
          have hqf := hB.frozen x.toNat
          have hcq := bumps_cnt zeros_cnt (bs.take k) q (List.mem_of_getElem? hq)
          unfold Cnt at hcq
          have HS := hid (bump_step bs k x hx zeros)
          have HSet := hid (bump_set _ x q hq)
          clear hx hcell0 hq
          unfold bv at hcell
          generalize hX : x.toNat = X at *
          go_wp2
          go_roundw
          case rel =>
            refine ⟨k + 1, by omega, by go_num, ?_, hb.setCell (Nat.le_refl _) _⟩
            have := hB.set X (.int .i64 (min 2147483648 (q + 1)))
            rw [HS.out, HSet.out]
            simpa only [Int.min_def] using this
          case measure => simp [intOf]; omega
        · obtain rfl : k = n := by omega
          go_wp2
          go_roundw
          case rel => exact ⟨1, by omega, by go_num, by rw [List.take_of_length_le (by omega)] at hB; rw [if_neg (by decide)]; exact hB, hb⟩
          case measure => simp [intOf]
    · obtain rfl : k = 1 := by omega
      go_wp2
      go_ret
      exact ⟨_, rfl, _, rfl, hB, hb⟩

set_option maxHeartbeats 400000 in
theorem priced_any (a : Option Addr) (c : Nat) (l : List Int) (w : World) (hl : l.length ≤ 256) (hcnt : ∀ x ∈ l, Cnt x)
    (hc : ∀ j u, (l.map iv)[j]? = some u → ∃ b off, a = some ⟨b, off, none⟩ ∧ b < w.heap.size ∧ w.cell? ⟨b, off + j, none⟩ = some u) :
    Calls Try.prog 38 #[.slice a l.length c] w (RetV w (.int .i64 (costS l + 32768))) := by
  have HC := hid (tcost_any a c l w hl hcnt hc)
  have h1 := costS_nonneg hcnt
  have h2 := costS_bound hcnt hl
  clear hc hcnt
  go_enter Try.func38, Try.ntmps38
  go_wp2_with (go_at_call 50; refine HC.out.mono ?_; rintro e w' ⟨rfl, hb⟩)
  go_ret
  exact ⟨rfl, hb⟩

set_option maxRecDepth 100000 in
set_option maxHeartbeats 400000 in
theorem single_any (a : Option Addr) (n c : Nat) (bs : List UInt8) (w : World) (hn : bs.length = n) (hm : n ≤ maxLen)
    (hc : ∀ j u, (bs.map bv)[j]? = some u → ∃ b off, a = some ⟨b, off, none⟩ ∧ b < w.heap.size ∧ w.cell? ⟨b, off + j, none⟩ = some u) :
    Calls Try.prog 25 #[.slice a n c] w (RetV w (.int .i64 (partS bs))) := by
  by_cases h0 : n = 0
  · subst h0
    have : bs = [] := List.eq_nil_of_length_eq_zero hn
    subst this
    go_enter Try.func25, Try.ntmps25
    go_wp2
    go_ret
    exact ⟨rfl, Below.refl _ _⟩
  · have t0 : decide ((n : Int) = 0) = false := by simpa using h0
    have hc1 := fun (j : Nat) (u : Value) (hu : (bs.map bv)[j]? = some u) => (show ∃ b off, a = some ⟨b, off, none⟩ ∧ b < (w.alloc (.cells #[.slice a n c] 25)).heap.size ∧ (w.alloc (.cells #[.slice a n c] 25)).cell? ⟨b, off + j, none⟩ = some u from by
      obtain ⟨b, off, h1, h2, h3⟩ := hc j u hu
      exact ⟨b, off, h1, Nat.lt_of_lt_of_le h2 (below_new w _).size, ((below_new w _).cell (p := ⟨b, off + j, none⟩) h2).trans h3⟩)
    have HH := hid (hist_one ⟨w.heap.size, 0, none⟩ 1 a n c bs (w.alloc (.cells #[.slice a n c] 25)) hn hm (Blk.cell (Blk.new w [Value.slice a n c] 25) (k := 0) rfl) hc1)
    have HP := hid (fun (b : Nat) (w1 : World) (hB : Blk w1 b ((histS bs).map iv) 84) => priced_any (some ⟨b, 0, none⟩) 256 (histS bs) w1 (Nat.le_of_eq (histS_length bs)) (histS_cnt bs) (fun j u hu => ⟨b, 0, rfl, hB.lt, by rw [Nat.zero_add]; exact hB.cell hu⟩))
    rw [histS_length] at HP
    have HE := hid (show costS (histS bs) + 32768 = partS bs from by
      unfold partS
      rw [if_neg (by rw [← List.length_eq_zero_iff]; omega)])
    clear hc hc1
    go_enter Try.func25, Try.ntmps25
    go_wp2_with (first
      | (go_at_call 39; refine HH.out.mono ?_; rintro e w1 ⟨v, rfl, b, rfl, hB, hb⟩)
      | (go_at_call 38; refine (HP.out _ _ hB).mono ?_; rintro e w2 ⟨rfl, hb2⟩))
    go_ret
    exact ⟨ret_i HE.out, (below_new w _).trans ((hb.mono (by simp)).trans (hb2.mono (Nat.le_trans (by simp) hb.size)))⟩
end Go.Proofs.Ytadnhjloeaddnaa
