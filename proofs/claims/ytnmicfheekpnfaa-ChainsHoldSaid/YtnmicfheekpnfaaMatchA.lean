/-
  The walks of layer 28, first part: what is earlier; the lengths of matches, in the program and in the reference.
-/
import Derived.Test.YtnmicfheekpnfaaBase
import Derived.Test.YtnmicfheekpnfaaMPlain
import Derived.Test.YtnmicfheekpnfaaChecked
namespace Go.Port
open Go.RowKit

theorem cpl_more {b : List UInt8} {p q k : Nat} {most : Int} (h : k < cpl most.toNat (b.drop p) (b.drop q)) : (k : Int) < most ∧ p + k < b.length ∧ q + k < b.length ∧ b[p + k]? = b[q + k]? := by
  have h1 := cpl_le most.toNat (b.drop p) (b.drop q)
  have h2 := cpl_eq most.toNat (b.drop p) (b.drop q) k h
  rw [List.getElem?_drop, List.getElem?_drop] at h2
  rw [List.length_drop, List.length_drop] at h1
  exact ⟨by omega, by omega, by omega, h2⟩
theorem cpl_end {b : List UInt8} {p q L : Nat} {most : Int} (hq : q ≤ p) (h : L = cpl most.toNat (b.drop p) (b.drop q)) : ¬ (L : Int) < most ∨ ¬ p + L < b.length ∨ b[p + L]? ≠ b[q + L]? := by
  rcases Int.lt_or_le (L : Int) most with h1 | h1
  · rcases Nat.lt_or_ge (p + L) b.length with h2 | h2
    · have h3 := cpl_stop most.toNat (b.drop p) (b.drop q) (by omega) (by rw [List.length_drop]; omega) (by rw [List.length_drop]; omega)
      rw [← h, List.getElem?_drop, List.getElem?_drop] at h3
      exact .inr (.inr h3)
    · exact .inr (.inl (by omega))
  · exact .inl (by omega)
theorem back_more {b : List UInt8} {p q k F : Nat} (hp : p ≤ b.length) (hq : q ≤ p) (h : k < cpl F (b.take p).reverse (b.take q).reverse) : k < F ∧ k < p ∧ k < q ∧ b[p - 1 - k]? = b[q - 1 - k]? := by
  have h1 := cpl_le F (b.take p).reverse (b.take q).reverse
  have h2 := cpl_eq F (b.take p).reverse (b.take q).reverse k h
  have l1 : (b.take p).length = p := by rw [List.length_take]; omega
  have l2 : (b.take q).length = q := by rw [List.length_take]; omega
  rw [List.length_reverse, List.length_reverse, l1, l2] at h1
  rw [List.getElem?_reverse (by omega), List.getElem?_reverse (by omega), l1, l2, List.getElem?_take_of_lt (by omega), List.getElem?_take_of_lt (by omega)] at h2
  exact ⟨by omega, by omega, by omega, h2⟩
theorem back_end {b : List UInt8} {p q L F : Nat} (hp : p ≤ b.length) (hq : q ≤ p) (h : L = cpl F (b.take p).reverse (b.take q).reverse) : ¬ L < F ∨ ¬ L < q ∨ b[p - 1 - L]? ≠ b[q - 1 - L]? := by
  rcases Nat.lt_or_ge L F with h1 | h1
  · rcases Nat.lt_or_ge L q with h2 | h2
    · have l1 : (b.take p).length = p := by rw [List.length_take]; omega
      have l2 : (b.take q).length = q := by rw [List.length_take]; omega
      have h3 := cpl_stop F (b.take p).reverse (b.take q).reverse (by omega) (by rw [List.length_reverse]; omega) (by rw [List.length_reverse]; omega)
      rw [← h, List.getElem?_reverse (by omega), List.getElem?_reverse (by omega), l1, l2, List.getElem?_take_of_lt (by omega), List.getElem?_take_of_lt (by omega)] at h3
      exact .inr (.inr h3)
    · exact .inr (.inl (by omega))
  · exact .inl (by omega)
theorem u8_ne {x y : UInt8} (h : x ≠ y) : ¬ (x.toNat : Int) = (y.toNat : Int) := fun e => h (UInt8.toNat_inj.1 (by omega))
theorem earlier_iff {n : Nat} {pos frm : Int} (h : earlierB n pos frm = true) : ∃ p q : Nat, pos = (p : Int) ∧ frm = (q : Int) ∧ q < p ∧ p ≤ n := by
  unfold earlierB at h
  simp only [Bool.and_eq_true, decide_eq_true_eq] at h
  exact ⟨pos.toNat, frm.toNat, by omega, by omega, by omega, by omega⟩
end Go.Port
namespace Go.Proofs.Ytnmicfheekpnfaa
open Go.RowKit Go.Port

theorem rearlier_any (a : Option Addr) (n c : Nat) (pos frm : Int) (w : World) :
    Calls Try.prog 70 #[.slice a n c, .int .i64 pos, .int .i64 frm] w fun e w' => e = .returned (.bool (earlierB n pos frm)) ∧ w = w' := by
  unfold earlierB
  by_cases h1 : 0 ≤ frm
  · by_cases h2 : frm < pos
    · go_enter Try.func70, Try.ntmps70
      go_wp2
      go_ret
      exact ⟨by simp [h1, h2], rfl⟩
    · go_enter Try.func70, Try.ntmps70
      go_wp2
      go_ret
      exact ⟨by simp; omega, rfl⟩
  · go_enter Try.func70, Try.ntmps70
    go_wp2
    go_ret
    exact ⟨by simp; omega, rfl⟩

set_option maxRecDepth 100000 in
set_option maxHeartbeats 800000 in
theorem rlen_any (a : Option Addr) (c : Nat) (b : List UInt8) (pos frm most : Int) (w : World) (hb : b.length ≤ 1000000)
    (hc : ∀ j u, (b.map bv)[j]? = some u → ∃ bl off, a = some ⟨bl, off, none⟩ ∧ bl < w.heap.size ∧ w.cell? ⟨bl, off + j, none⟩ = some u) :
    Calls Try.prog 71 #[.slice a b.length c, .int .i64 pos, .int .i64 frm, .int .i64 most] w fun e w' => e = .returned (.int .i64 (lenS b pos frm most : Nat)) ∧ ∃ m, w' = w.drewN m := by
  have HC := hid hc
  clear hc
  have HE := hid (rearlier_any a b.length c pos frm w)
  unfold lenS
  cases he : earlierB b.length pos frm with
  | false =>
    rw [he] at HE
    clear he
    go_enter Try.func71, Try.ntmps71
    go_wp2_with (go_at_call 70; refine HE.out.mono ?_; rintro e w' ⟨rfl, rfl⟩)
    go_ret
    exact ⟨by simp, 0, rfl⟩
  | true =>
    rw [he] at HE
    obtain ⟨p, q, rfl, rfl, hqp, hpn⟩ := earlier_iff he
    clear he
    simp only [Int.toNat_natCast, if_true]
    have hL := cpl_le most.toNat (b.drop p) (b.drop q)
    have HM := hid (fun k (h : k < cpl most.toNat (b.drop p) (b.drop q)) => cpl_more h)
    have HS := hid (cpl_end (b := b) (p := p) (q := q) (most := most) (by omega) rfl)
    rw [List.length_drop, List.length_drop] at hL
    generalize cpl most.toNat (b.drop p) (b.drop q) = L at *
    go_enter Try.func71, Try.ntmps71
    go_wp2_with (go_at_call 70; refine HE.out.mono ?_; rintro e w' ⟨rfl, rfl⟩)
    go_loopw [9] (fun i wr => ∃ k m : Nat, k ≤ L ∧ i = .int .i64 k ∧ wr = w.drewN m) (fun i _ => L - (intOf i).toNat)
    case atStart => exact ⟨0, 0, Nat.zero_le _, rfl, rfl⟩
    case round =>
      obtain ⟨k, m, hk, rfl, rfl⟩ := hrel
      have hw1 : IntKind.i64.wrap ((p : Int) + (k : Int)) = ((p + k : Nat) : Int) := by rw [IntKind.wrap_i64]; omega
      have hw2 : IntKind.i64.wrap ((q : Int) + (k : Int)) = ((q + k : Nat) : Int) := by rw [IntKind.wrap_i64]; omega
      have HP := hid (show p + k = p + k ∧ q + k = q + k from ⟨rfl, rfl⟩)
      by_cases hlt : k < L
      · obtain ⟨h1, h2, h3, h4⟩ := HM.out k hlt
        have e2 : b[q + k]? = some (b[p + k]'h2) := by rw [← h4, List.getElem?_eq_getElem h2]
        obtain ⟨bl, off, rfl, _, c1⟩ := HC.out (p + k) (bv (b[p + k]'h2)) (by rw [List.getElem?_map, List.getElem?_eq_getElem h2]; rfl)
        obtain ⟨bl', off', eq, _, c2⟩ := HC.out (q + k) (bv (b[p + k]'h2)) (by rw [List.getElem?_map, e2]; rfl)
        cases eq
        generalize b[p + k]'h2 = x at *
        generalize hpk : p + k = pk at *
        generalize hqk : q + k = qk at *
        have HPK := hid (And.intro hpk hqk)
        have hpI : (pk : Int) < (b.length : Int) := by omega
        have hqI : (qk : Int) < (b.length : Int) := by omega
        unfold bv at c1 c2
        clear h4 e2 hpk hqk
        go_wp2
        go_quiet (fail)
        go_wp2
        go_roundw
        case rel => exact ⟨k + 1, m + nq, hlt, by go_num, rfl⟩
        case measure => simp [intOf]; omega
      · obtain rfl : k = L := by omega
        have h1 := HS.out
        by_cases h0 : (k : Int) < most
        · by_cases h2 : p + k < b.length
          · have h3 : b[p + k]? ≠ b[q + k]? := by
              rcases h1 with h | h | h
              · omega
              · omega
              · exact h
            have h2q : q + k < b.length := by omega
            obtain ⟨bl, off, rfl, _, c1⟩ := HC.out (p + k) (bv (b[p + k]'h2)) (by rw [List.getElem?_map, List.getElem?_eq_getElem h2]; rfl)
            obtain ⟨bl', off', eq, _, c2⟩ := HC.out (q + k) (bv (b[q + k]'h2q)) (by rw [List.getElem?_map, List.getElem?_eq_getElem h2q]; rfl)
            cases eq
            rw [List.getElem?_eq_getElem h2, List.getElem?_eq_getElem h2q] at h3
            have hxy := u8_ne (fun e => h3 (congrArg some e))
            generalize b[p + k]'h2 = x at *
            generalize b[q + k]'h2q = y at *
            generalize hpk : p + k = pk at *
            generalize hqk : q + k = qk at *
            have HPK := hid (And.intro hpk hqk)
            have hpI : (pk : Int) < (b.length : Int) := by omega
            have hqI : (qk : Int) < (b.length : Int) := by omega
            unfold bv at c1 c2
            clear h1 h3 hpk hqk
            go_wp2
            go_quiet (fail)
            go_wp2
            go_ret
            exact ⟨rfl, m + nq, by first | rfl | rw [World.drewN_drewN]⟩
          · have h2I : ¬ ((p + k : Nat) : Int) < (b.length : Int) := by omega
            generalize hpk : p + k = pk at *
            have HPK := hid hpk
            clear hpk h1
            go_wp2
            have hd : decide ((pk : Int) < (b.length : Int)) = false := by simpa using h2I
            go_quiet (fail)
            go_wp2
            go_ret
            exact ⟨rfl, m + nq, by first | rfl | rw [World.drewN_drewN]⟩
        · clear h1
          go_wp2
          have hd : decide ((k : Int) < most) = false := by simpa using h0
          go_quiet (fail)
          go_wp2
          go_ret
          exact ⟨rfl, m + nq, by first | rfl | rw [World.drewN_drewN]⟩

end Go.Proofs.Ytnmicfheekpnfaa
