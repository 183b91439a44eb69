/-
  The walks of the split, sixth part: the least of a list by a closure.
-/
import Derived.Test.YtadnhjloeaddnaaSplitE
namespace Go.Proofs.Ytadnhjloeaddnaa
open Go.RowKit Go.Port

set_option maxRecDepth 100000 in
set_option maxHeartbeats 800000 in
theorem least_any (a : Option Addr) (n c : Nat) (l vs : List Int) (p1 p2 p3 p4 : Addr) (w : World) (hn : l.length = n) (hv : vs.length = n) (hnb : n ≤ 10000)
    (hc : ∀ j u, (l.map iv)[j]? = some u → ∃ b off, a = some ⟨b, off, none⟩ ∧ b < w.heap.size ∧ w.cell? ⟨b, off + j, none⟩ = some u)
    (hf : ∀ (j : Nat) (x v : Int), l[j]? = some x → vs[j]? = some v → ∀ W, Below w.heap.size w W → Calls Try.prog 47 #[.int .i64 x, .pointer (some p1), .pointer (some p2), .pointer (some p3), .pointer (some p4)] W (RetV W (.int .i64 v))) :
    Calls Try.prog 46 #[.slice a n c, .func (.func 47) #[] #[.pointer (some p1), .pointer (some p2), .pointer (some p3), .pointer (some p4)]] w (RetV w (.tuple #[.int .i64 ((leastS vs).1 : Nat), .int .i64 (leastS vs).2])) := by
  have HC := hid hc
  have HF := hid hf
  clear hc hf
  go_enter Try.func46, Try.ntmps46
  go_wp2
  go_loopw [4, 5, 11] (fun t x i wr => ∃ k : Nat, k ≤ n ∧ i = .int .i64 k ∧ t = .int .i64 ((leastS (vs.take k)).1 : Nat) ∧ x = .int .i64 (leastS (vs.take k)).2 ∧ Below w.heap.size w wr) (fun _ _ i _ => n - (intOf i).toNat)
  case atStart => exact ⟨0, Nat.zero_le _, rfl, rfl, rfl, Below.refl _ _⟩
  case round =>
    obtain ⟨k, hk, rfl, rfl, rfl, hB⟩ := hrel
    by_cases hlt : k < n
    · obtain ⟨x, hx⟩ : ∃ x, l[k]? = some x := ⟨l[k]'(by omega), by simp [hn, hlt]⟩
      obtain ⟨v, hvk⟩ : ∃ v, vs[k]? = some v := ⟨vs[k]'(by omega), by simp [hv, hlt]⟩
      obtain ⟨b, off, rfl, hbl, hcell0⟩ := HC.out k (iv x) (by simp [hx])
      have hcell := (hB.cell (p := ⟨b, off + k, none⟩) hbl).trans hcell0
      have HK := hid (HF.out k x v hx hvk wr hB)
      have hst : leastS (vs.take (k + 1)) = if k = 0 ∨ v < (leastS (vs.take k)).2 then (k, v) else leastS (vs.take k) := by
        rw [List.take_succ_eq_append_getElem (by omega), leastS_snoc]
        have e : vs[k] = v := by simpa [hv, hlt] using hvk
        have e2 : (vs.take k).length = k := by rw [List.length_take]; omega
        rw [e, e2]
      have hsz := hB.size
      clear hx hvk hcell0
      unfold iv at hcell
      generalize leastS (vs.take k) = L at *
      obtain ⟨L1, L2⟩ := L
      dsimp only at hst
      by_cases h0 : k = 0 ∨ v < L2
      · rw [if_pos h0] at hst
        have HST := hid hst
        clear hst
        have HJ := hid hlt
        by_cases hk0 : k = 0
        · have t0 : decide ((k : Int) = 0) = true := by simpa using hk0
          have HK0 := hid hk0
          clear hk0 h0
          go_wp2_with (go_at_call 47; refine HK.out.mono ?_; rintro e w1 ⟨rfl, hb1⟩)
          go_roundw
          case rel => exact ⟨k + 1, HJ.out, by go_num, by rw [HST.out]; have := HK0.out; subst this; rfl, by simp only [HST.out], hB.trans (hb1.mono hsz)⟩
          case measure =>
            have := HJ.out
            simp [intOf]; omega
        · have hvL : decide (v < L2) = true := by simp; omega
          clear h0
          go_wp2_with (go_at_call 47; refine HK.out.mono ?_; rintro e w1 ⟨rfl, hb1⟩)
          go_roundw
          case rel => exact ⟨k + 1, HJ.out, by go_num, by simp only [HST.out], by simp only [HST.out], hB.trans (hb1.mono hsz)⟩
          case measure =>
            have := HJ.out
            simp [intOf]; omega
      · rw [if_neg h0] at hst
        have HST := hid hst
        clear hst
        have HJ := hid hlt
        have hvL : decide (v < L2) = false := by simp; omega
        have hk0 : ¬ k = 0 := by omega
        clear h0
        go_wp2_with (go_at_call 47; refine HK.out.mono ?_; rintro e w1 ⟨rfl, hb1⟩)
        go_roundw
        case rel => exact ⟨k + 1, HJ.out, by go_num, by simp only [HST.out], by simp only [HST.out], hB.trans (hb1.mono hsz)⟩
        case measure =>
          have := HJ.out
          simp [intOf]; omega
    · obtain rfl : k = n := by omega
      have HE := hid (show vs.take k = vs from List.take_of_length_le (by omega))
      go_wp2
      go_ret2
      exact ⟨by rw [HE.out]; rfl, hB⟩
end Go.Proofs.Ytadnhjloeaddnaa
