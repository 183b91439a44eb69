/-
  The walks of layer 28, first part: what is earlier; the lengths of matches, in the program and in the reference.
-/
import Derived.Test.YtaoiaiddamnbiaaBase
import Derived.Test.YtaoiaiddamnbiaaMatchPlain
import Derived.Test.YtaoiaiddamnbiaaChecked
namespace Go.Port
open Go.RowKit

theorem cpl_more {b : List UInt8} {p q k : Nat} {most : Int} (h : k < cpl most.toNat (b.drop p) (b.drop q)) : (k : Int) < most ∧ p + k < b.length ∧ q + k < b.length ∧ b[p + k]? = b[q + k]? := by
  have h1 := cpl_le most.toNat (b.drop p) (b.drop q)
  have h2 := cpl_eq most.toNat (b.drop p) (b.drop q) k h
  rw [List.getElem?_drop, List.getElem?_drop] at h2
  rw [List.length_drop, List.length_drop] at h1
  exact ⟨by omega, by omega, by omega, h2⟩
theorem cpl_end {b : List UInt8} {p q L : Nat} {most : Int} (hq : q ≤ p) (h : L = cpl most.toNat (b.drop p) (b.drop q)) : ¬ (L : Int) < most ∨ ¬ p + L < b.length ∨ b[p + L]? ≠ b[q + L]? := by
  rcases Int.lt_or_le (L : Int) most with h1 | h1
  · rcases Nat.lt_or_ge (p + L) b.length with h2 | h2
    · have h3 := cpl_stop most.toNat (b.drop p) (b.drop q) (by omega) (by rw [List.length_drop]; omega) (by rw [List.length_drop]; omega)
      rw [← h, List.getElem?_drop, List.getElem?_drop] at h3
      exact .inr (.inr h3)
    · exact .inr (.inl (by omega))
  · exact .inl (by omega)
theorem back_more {b : List UInt8} {p q k F : Nat} (hp : p ≤ b.length) (hq : q ≤ p) (h : k < cpl F (b.take p).reverse (b.take q).reverse) : k < F ∧ k < p ∧ k < q ∧ b[p - 1 - k]? = b[q - 1 - k]? := by
  have h1 := cpl_le F (b.take p).reverse (b.take q).reverse
  have h2 := cpl_eq F (b.take p).reverse (b.take q).reverse k h
  have l1 : (b.take p).length = p := by rw [List.length_take]; omega
  have l2 : (b.take q).length = q := by rw [List.length_take]; omega
  rw [List.length_reverse, List.length_reverse, l1, l2] at h1
  rw [List.getElem?_reverse (by omega), List.getElem?_reverse (by omega), l1, l2, List.getElem?_take_of_lt (by omega), List.getElem?_take_of_lt (by omega)] at h2
  exact ⟨by omega, by omega, by omega, h2⟩
theorem back_end {b : List UInt8} {p q L F : Nat} (hp : p ≤ b.length) (hq : q ≤ p) (h : L = cpl F (b.take p).reverse (b.take q).reverse) : ¬ L < F ∨ ¬ L < q ∨ b[p - 1 - L]? ≠ b[q - 1 - L]? := by
  rcases Nat.lt_or_ge L F with h1 | h1
  · rcases Nat.lt_or_ge L q with h2 | h2
    · have l1 : (b.take p).length = p := by rw [List.length_take]; omega
      have l2 : (b.take q).length = q := by rw [List.length_take]; omega
      have h3 := cpl_stop F (b.take p).reverse (b.take q).reverse (by omega) (by rw [List.length_reverse]; omega) (by rw [List.length_reverse]; omega)
      rw [← h, List.getElem?_reverse (by omega), List.getElem?_reverse (by omega), l1, l2, List.getElem?_take_of_lt (by omega), List.getElem?_take_of_lt (by omega)] at h3
      exact .inr (.inr h3)
    · exact .inr (.inl (by omega))
  · exact .inl (by omega)
theorem u8_ne {x y : UInt8} (h : x ≠ y) : ¬ (x.toNat : Int) = (y.toNat : Int) := fun e => h (UInt8.toNat_inj.1 (by omega))
theorem earlier_iff {n : Nat} {pos frm : Int} (h : earlierB n pos frm = true) : ∃ p q : Nat, pos = (p : Int) ∧ frm = (q : Int) ∧ q < p ∧ p ≤ n := by
  unfold earlierB at h
  simp only [Bool.and_eq_true, decide_eq_true_eq] at h
  exact ⟨pos.toNat, frm.toNat, by omega, by omega, by omega, by omega⟩
end Go.Port
namespace Go.Proofs.Ytaoiaiddamnbiaa
open Go.RowKit Go.Port

theorem rearlier_any (a : Option Addr) (n c : Nat) (pos frm : Int) (w : World) :
    Calls Try.prog 30 #[.slice a n c, .int .i64 pos, .int .i64 frm] w fun e w' => e = .returned (.bool (earlierB n pos frm)) ∧ w = w' := by
  unfold earlierB
  by_cases h1 : 0 ≤ frm
  · by_cases h2 : frm < pos
    · go_enter Try.func30, Try.ntmps30
      go_wp2
      go_ret
      exact ⟨by simp [h1, h2], rfl⟩
    · go_enter Try.func30, Try.ntmps30
      go_wp2
      go_ret
      exact ⟨by simp; omega, rfl⟩
  · go_enter Try.func30, Try.ntmps30
    go_wp2
    go_ret
    exact ⟨by simp; omega, rfl⟩

set_option maxRecDepth 100000 in
set_option maxHeartbeats 800000 in
theorem rlen_any (a : Option Addr) (c : Nat) (b : List UInt8) (pos frm most : Int) (w : World) (hb : b.length ≤ 1000000)
    (hc : ∀ j u, (b.map bv)[j]? = some u → ∃ bl off, a = some ⟨bl, off, none⟩ ∧ bl < w.heap.size ∧ w.cell? ⟨bl, off + j, none⟩ = some u) :
    Calls Try.prog 13 #[.slice a b.length c, .int .i64 pos, .int .i64 frm, .int .i64 most] w fun e w' => e = .returned (.int .i64 (lenS b pos frm most : Nat)) ∧ ∃ m, w' = w.drewN m := by
  have HC := hid hc
  clear hc
  have HE := hid (rearlier_any a b.length c pos frm w)
  unfold lenS
  cases he : earlierB b.length pos frm with
  | false =>
    rw [he] at HE
    clear he
    go_enter Try.func13, Try.ntmps13
    go_wp2_with (go_at_call 30; refine HE.out.mono ?_; rintro e w' ⟨rfl, rfl⟩)
    go_ret
    exact ⟨by simp, 0, rfl⟩
  | true =>
    rw [he] at HE
    obtain ⟨p, q, rfl, rfl, hqp, hpn⟩ := earlier_iff he
    clear he
    simp only [Int.toNat_natCast, if_true]
    have hL := cpl_le most.toNat (b.drop p) (b.drop q)
    have HM := hid (fun k (h : k < cpl most.toNat (b.drop p) (b.drop q)) => cpl_more h)
    have HS := hid (cpl_end (b := b) (p := p) (q := q) (most := most) (by omega) rfl)
    rw [List.length_drop, List.length_drop] at hL
    generalize cpl most.toNat (b.drop p) (b.drop q) = L at *
    go_enter Try.func13, Try.ntmps13
    go_wp2_with (go_at_call 30; refine HE.out.mono ?_; rintro e w' ⟨rfl, rfl⟩)
    go_loopw [9] (fun i wr => ∃ k m : Nat, k ≤ L ∧ i = .int .i64 k ∧ wr = w.drewN m) (fun i _ => L - (intOf i).toNat)
    case atStart => exact ⟨0, 0, Nat.zero_le _, rfl, rfl⟩
    case round =>
      obtain ⟨k, m, hk, rfl, rfl⟩ := hrel
      have hw1 : IntKind.i64.wrap ((p : Int) + (k : Int)) = ((p + k : Nat) : Int) := by rw [IntKind.wrap_i64]; omega
      have hw2 : IntKind.i64.wrap ((q : Int) + (k : Int)) = ((q + k : Nat) : Int) := by rw [IntKind.wrap_i64]; omega
      have HP := hid (show p + k = p + k ∧ q + k = q + k from ⟨rfl, rfl⟩)
      by_cases hlt : k < L
      · obtain ⟨h1, h2, h3, h4⟩ := HM.out k hlt
        have e2 : b[q + k]? = some (b[p + k]'h2) := by rw [← h4, List.getElem?_eq_getElem h2]
        obtain ⟨bl, off, rfl, _, c1⟩ := HC.out (p + k) (bv (b[p + k]'h2)) (by rw [List.getElem?_map, List.getElem?_eq_getElem h2]; rfl)
        obtain ⟨bl', off', eq, _, c2⟩ := HC.out (q + k) (bv (b[p + k]'h2)) (by rw [List.getElem?_map, e2]; rfl)
        cases eq
        generalize b[p + k]'h2 = x at *
        generalize hpk : p + k = pk at *
        generalize hqk : q + k = qk at *
        have HPK := hid (And.intro hpk hqk)
        have hpI : (pk : Int) < (b.length : Int) := by omega
        have hqI : (qk : Int) < (b.length : Int) := by omega
        unfold bv at c1 c2
        clear h4 e2 hpk hqk
        go_wp2
        go_quiet (fail)
        go_wp2
        go_roundw
        case rel => exact ⟨k + 1, m + nq, hlt, by go_num, rfl⟩
        case measure => simp [intOf]; omega
      · obtain rfl : k = L := by omega
        have h1 := HS.out
        by_cases h0 : (k : Int) < most
        · by_cases h2 : p + k < b.length
          · have h3 : b[p + k]? ≠ b[q + k]? := by
              rcases h1 with h | h | h
              · omega
              · omega
              · exact h
            have h2q : q + k < b.length := by omega
            obtain ⟨bl, off, rfl, _, c1⟩ := HC.out (p + k) (bv (b[p + k]'h2)) (by rw [List.getElem?_map, List.getElem?_eq_getElem h2]; rfl)
            obtain ⟨bl', off', eq, _, c2⟩ := HC.out (q + k) (bv (b[q + k]'h2q)) (by rw [List.getElem?_map, List.getElem?_eq_getElem h2q]; rfl)
            cases eq
            rw [List.getElem?_eq_getElem h2, List.getElem?_eq_getElem h2q] at h3
            have hxy := u8_ne (fun e => h3 (congrArg some e))
            generalize b[p + k]'h2 = x at *
            generalize b[q + k]'h2q = y at *
            generalize hpk : p + k = pk at *
            generalize hqk : q + k = qk at *
            have HPK := hid (And.intro hpk hqk)
            have hpI : (pk : Int) < (b.length : Int) := by omega
            have hqI : (qk : Int) < (b.length : Int) := by omega
            unfold bv at c1 c2
            clear h1 h3 hpk hqk
            go_wp2
            go_quiet (fail)
            go_wp2
            go_ret
            exact ⟨rfl, m + nq, by first | rfl | rw [World.drewN_drewN]⟩
          · have h2I : ¬ ((p + k : Nat) : Int) < (b.length : Int) := by omega
            generalize hpk : p + k = pk at *
            have HPK := hid hpk
            clear hpk h1
            go_wp2
            have hd : decide ((pk : Int) < (b.length : Int)) = false := by simpa using h2I
            go_quiet (fail)
            go_wp2
            go_ret
            exact ⟨rfl, m + nq, by first | rfl | rw [World.drewN_drewN]⟩
        · clear h1
          go_wp2
          have hd : decide ((k : Int) < most) = false := by simpa using h0
          go_quiet (fail)
          go_wp2
          go_ret
          exact ⟨rfl, m + nq, by first | rfl | rw [World.drewN_drewN]⟩

set_option maxRecDepth 100000 in
set_option maxHeartbeats 800000 in
theorem rback_pos (a : Option Addr) (c : Nat) (b : List UInt8) (pos frm least : Int) (w : World) (hl : 0 < least) (hb : b.length ≤ 1000000)
    (hc : ∀ j u, (b.map bv)[j]? = some u → ∃ bl off, a = some ⟨bl, off, none⟩ ∧ bl < w.heap.size ∧ w.cell? ⟨bl, off + j, none⟩ = some u) :
    Calls Try.prog 15 #[.slice a b.length c, .int .i64 pos, .int .i64 frm, .int .i64 least] w fun e w' => e = .returned (.int .i64 (backS b pos frm least : Nat)) ∧ ∃ m, w' = w.drewN m := by
  have HC := hid hc
  clear hc
  have HE := hid (rearlier_any a b.length c pos frm w)
  unfold backS
  cases he : earlierB b.length pos frm with
  | false =>
    rw [he] at HE
    clear he
    go_enter Try.func15, Try.ntmps15
    go_wp2_with (go_at_call 30; refine HE.out.mono ?_; rintro e w' ⟨rfl, rfl⟩)
    go_ret
    exact ⟨by simp, 0, rfl⟩
  | true =>
    rw [he] at HE
    obtain ⟨p, q, rfl, rfl, hqp, hpn⟩ := earlier_iff he
    clear he
    simp only [Int.toNat_natCast, if_true]
    have hF : ((((p : Int) - max 0 least).toNat : Nat) : Int) = max 0 ((p : Int) - max 0 least) := by omega
    generalize ((p : Int) - max 0 least).toNat = F at *
    have hM : max 0 least = least := by omega
    rw [hM] at hF
    clear hM
    have HM := hid (fun k (h : k < cpl F (b.take p).reverse (b.take q).reverse) => back_more hpn (by omega) h)
    have HS := hid (back_end (b := b) (p := p) (q := q) (F := F) hpn (by omega) rfl)
    have hL := cpl_le F (b.take p).reverse (b.take q).reverse
    have l2 : (b.take q).length = q := by rw [List.length_take]; omega
    rw [List.length_reverse, List.length_reverse, l2] at hL
    generalize cpl F (b.take p).reverse (b.take q).reverse = L at *
    obtain ⟨hL1, _, hL2⟩ := hL
    clear l2
    go_enter Try.func15, Try.ntmps15
    go_wp2_with (go_at_call 30; refine HE.out.mono ?_; rintro e w' ⟨rfl, rfl⟩)
    go_loopw [9] (fun i wr => ∃ k m : Nat, k ≤ L ∧ i = .int .i64 k ∧ wr = w.drewN m) (fun i _ => L - (intOf i).toNat)
    case atStart => exact ⟨0, 0, Nat.zero_le _, rfl, rfl⟩
    case round =>
      obtain ⟨k, m, hk, rfl, rfl⟩ := hrel
      obtain ⟨pk, hpk⟩ : ∃ pk : Nat, p = pk + k := ⟨p - k, by omega⟩
      obtain ⟨qk, hqk⟩ : ∃ qk : Nat, q = qk + k := ⟨q - k, by omega⟩
      have hw1 : IntKind.i64.wrap ((p : Int) - (k : Int)) = (pk : Int) := by rw [IntKind.wrap_i64]; omega
      have hw2 : IntKind.i64.wrap ((q : Int) - (k : Int)) = (qk : Int) := by rw [IntKind.wrap_i64]; omega
      have hmF : least < (pk : Int) ↔ k < F := by omega
      by_cases hlt : k < L
      · obtain ⟨h1, h2, h3, h4⟩ := HM.out k hlt
        obtain ⟨pj, hpj⟩ : ∃ pj : Nat, pk = pj + 1 := ⟨pk - 1, by omega⟩
        obtain ⟨qj, hqj⟩ : ∃ qj : Nat, qk = qj + 1 := ⟨qk - 1, by omega⟩
        have hw3 : IntKind.i64.wrap ((pk : Int) - 1) = (pj : Int) := by rw [IntKind.wrap_i64]; omega
        have hw4 : IntKind.i64.wrap ((qk : Int) - 1) = (qj : Int) := by rw [IntKind.wrap_i64]; omega
        rw [show p - 1 - k = pj from by omega, show q - 1 - k = qj from by omega] at h4
        have h2' : pj < b.length := by omega
        have e2 : b[qj]? = some (b[pj]'h2') := by rw [← h4, List.getElem?_eq_getElem h2']
        obtain ⟨bl, off, rfl, _, c1⟩ := HC.out pj (bv (b[pj]'h2')) (by rw [List.getElem?_map, List.getElem?_eq_getElem h2']; rfl)
        obtain ⟨bl', off', eq, _, c2⟩ := HC.out qj (bv (b[pj]'h2')) (by rw [List.getElem?_map, e2]; rfl)
        cases eq
        generalize b[pj]'h2' = x at *
        have hmx := hmF.2 h1
        have hq0 : (0 : Int) < (qk : Int) := by omega
        have hpI : (pj : Int) < (b.length : Int) := by omega
        have hqI : (qj : Int) < (b.length : Int) := by omega
        unfold bv at c1 c2
        have HPK := hid (And.intro hpk (And.intro hqk (And.intro hpj hqj)))
        clear h4 e2 hmF hpk hqk hpj hqj
        go_wp2
        have hg1 : decide (0 < qk) = true := decide_eq_true (by omega)
        go_quiet (fail)
        go_wp2
        go_roundw
        case rel => exact ⟨k + 1, m + nq, hlt, by go_num, rfl⟩
        case measure => simp [intOf]; omega
      · obtain rfl : k = L := by omega
        have h1 := HS.out
        by_cases h0 : k < F
        · have hmx := hmF.2 h0
          by_cases h2 : k < q
          · have h3 : b[p - 1 - k]? ≠ b[q - 1 - k]? := by
              rcases h1 with h | h | h
              · omega
              · omega
              · exact h
            obtain ⟨pj, hpj⟩ : ∃ pj : Nat, pk = pj + 1 := ⟨pk - 1, by omega⟩
            obtain ⟨qj, hqj⟩ : ∃ qj : Nat, qk = qj + 1 := ⟨qk - 1, by omega⟩
            have hw3 : IntKind.i64.wrap ((pk : Int) - 1) = (pj : Int) := by rw [IntKind.wrap_i64]; omega
            have hw4 : IntKind.i64.wrap ((qk : Int) - 1) = (qj : Int) := by rw [IntKind.wrap_i64]; omega
            rw [show p - 1 - k = pj from by omega, show q - 1 - k = qj from by omega] at h3
            have h2p : pj < b.length := by omega
            have h2q : qj < b.length := by omega
            obtain ⟨bl, off, rfl, _, c1⟩ := HC.out pj (bv (b[pj]'h2p)) (by rw [List.getElem?_map, List.getElem?_eq_getElem h2p]; rfl)
            obtain ⟨bl', off', eq, _, c2⟩ := HC.out qj (bv (b[qj]'h2q)) (by rw [List.getElem?_map, List.getElem?_eq_getElem h2q]; rfl)
            cases eq
            rw [List.getElem?_eq_getElem h2p, List.getElem?_eq_getElem h2q] at h3
            have hxy := u8_ne (fun e => h3 (congrArg some e))
            generalize b[pj]'h2p = x at *
            generalize b[qj]'h2q = y at *
            have hq0 : (0 : Int) < (qk : Int) := by omega
            have hpI : (pj : Int) < (b.length : Int) := by omega
            have hqI : (qj : Int) < (b.length : Int) := by omega
            unfold bv at c1 c2
            have HPK := hid (And.intro hpk (And.intro hqk (And.intro hpj hqj)))
            clear h1 h3 hmF hpk hqk hpj hqj
            go_wp2
            have hg1 : decide (0 < qk) = true := decide_eq_true (by omega)
            go_quiet (fail)
            go_wp2
            go_ret
            exact ⟨rfl, m + nq, by first | rfl | rw [World.drewN_drewN]⟩
          · have hq0 : qk = 0 := by omega
            subst hq0
            clear h1 hmF
            go_wp2
            go_quiet (fail)
            go_wp2
            go_ret
            exact ⟨rfl, m + nq, by first | rfl | rw [World.drewN_drewN]⟩
        · have hmx : ¬ least < (pk : Int) := fun h => h0 (hmF.1 h)
          clear h1 hmF
          go_wp2
          have hd : decide (least < (pk : Int)) = false := by simpa using hmx
          go_quiet (fail)
          go_wp2
          go_ret
          exact ⟨rfl, m + nq, by first | rfl | rw [World.drewN_drewN]⟩

set_option maxRecDepth 100000 in
set_option maxHeartbeats 800000 in
theorem rback_neg (a : Option Addr) (c : Nat) (b : List UInt8) (pos frm least : Int) (w : World) (hl : least ≤ 0) (hb : b.length ≤ 1000000)
    (hc : ∀ j u, (b.map bv)[j]? = some u → ∃ bl off, a = some ⟨bl, off, none⟩ ∧ bl < w.heap.size ∧ w.cell? ⟨bl, off + j, none⟩ = some u) :
    Calls Try.prog 15 #[.slice a b.length c, .int .i64 pos, .int .i64 frm, .int .i64 least] w fun e w' => e = .returned (.int .i64 (backS b pos frm least : Nat)) ∧ ∃ m, w' = w.drewN m := by
  have HC := hid hc
  clear hc
  have HE := hid (rearlier_any a b.length c pos frm w)
  unfold backS
  cases he : earlierB b.length pos frm with
  | false =>
    rw [he] at HE
    clear he
    go_enter Try.func15, Try.ntmps15
    go_wp2_with (go_at_call 30; refine HE.out.mono ?_; rintro e w' ⟨rfl, rfl⟩)
    go_ret
    exact ⟨by simp, 0, rfl⟩
  | true =>
    rw [he] at HE
    obtain ⟨p, q, rfl, rfl, hqp, hpn⟩ := earlier_iff he
    clear he
    simp only [Int.toNat_natCast, if_true]
    have hF : ((((p : Int) - max 0 least).toNat : Nat) : Int) = max 0 ((p : Int) - max 0 least) := by omega
    generalize ((p : Int) - max 0 least).toNat = F at *
    have hM : max 0 least = 0 := by omega
    rw [hM] at hF
    clear hM
    have HM := hid (fun k (h : k < cpl F (b.take p).reverse (b.take q).reverse) => back_more hpn (by omega) h)
    have HS := hid (back_end (b := b) (p := p) (q := q) (F := F) hpn (by omega) rfl)
    have hL := cpl_le F (b.take p).reverse (b.take q).reverse
    have l2 : (b.take q).length = q := by rw [List.length_take]; omega
    rw [List.length_reverse, List.length_reverse, l2] at hL
    generalize cpl F (b.take p).reverse (b.take q).reverse = L at *
    obtain ⟨hL1, _, hL2⟩ := hL
    clear l2
    go_enter Try.func15, Try.ntmps15
    go_wp2_with (go_at_call 30; refine HE.out.mono ?_; rintro e w' ⟨rfl, rfl⟩)
    go_loopw [9] (fun i wr => ∃ k m : Nat, k ≤ L ∧ i = .int .i64 k ∧ wr = w.drewN m) (fun i _ => L - (intOf i).toNat)
    case atStart => exact ⟨0, 0, Nat.zero_le _, rfl, rfl⟩
    case round =>
      obtain ⟨k, m, hk, rfl, rfl⟩ := hrel
      obtain ⟨pk, hpk⟩ : ∃ pk : Nat, p = pk + k := ⟨p - k, by omega⟩
      obtain ⟨qk, hqk⟩ : ∃ qk : Nat, q = qk + k := ⟨q - k, by omega⟩
      have hw1 : IntKind.i64.wrap ((p : Int) - (k : Int)) = (pk : Int) := by rw [IntKind.wrap_i64]; omega
      have hw2 : IntKind.i64.wrap ((q : Int) - (k : Int)) = (qk : Int) := by rw [IntKind.wrap_i64]; omega
      have hmF : 0 < (pk : Int) ↔ k < F := by omega
      by_cases hlt : k < L
      · obtain ⟨h1, h2, h3, h4⟩ := HM.out k hlt
        obtain ⟨pj, hpj⟩ : ∃ pj : Nat, pk = pj + 1 := ⟨pk - 1, by omega⟩
        obtain ⟨qj, hqj⟩ : ∃ qj : Nat, qk = qj + 1 := ⟨qk - 1, by omega⟩
        have hw3 : IntKind.i64.wrap ((pk : Int) - 1) = (pj : Int) := by rw [IntKind.wrap_i64]; omega
        have hw4 : IntKind.i64.wrap ((qk : Int) - 1) = (qj : Int) := by rw [IntKind.wrap_i64]; omega
        rw [show p - 1 - k = pj from by omega, show q - 1 - k = qj from by omega] at h4
        have h2' : pj < b.length := by omega
        have e2 : b[qj]? = some (b[pj]'h2') := by rw [← h4, List.getElem?_eq_getElem h2']
        obtain ⟨bl, off, rfl, _, c1⟩ := HC.out pj (bv (b[pj]'h2')) (by rw [List.getElem?_map, List.getElem?_eq_getElem h2']; rfl)
        obtain ⟨bl', off', eq, _, c2⟩ := HC.out qj (bv (b[pj]'h2')) (by rw [List.getElem?_map, e2]; rfl)
        cases eq
        generalize b[pj]'h2' = x at *
        have hmx := hmF.2 h1
        have hq0 : (0 : Int) < (qk : Int) := by omega
        have hpI : (pj : Int) < (b.length : Int) := by omega
        have hqI : (qj : Int) < (b.length : Int) := by omega
        unfold bv at c1 c2
        have HPK := hid (And.intro hpk (And.intro hqk (And.intro hpj hqj)))
        clear h4 e2 hmF hpk hqk hpj hqj
        go_wp2
        have hl2 : ¬ (0 : Int) < least := by omega
        have hg1 : decide (0 < qk) = true := decide_eq_true (by omega)
        have hg0 : decide (0 < pk) = true := decide_eq_true (by omega)
        go_quiet (fail)
        go_wp2
        go_roundw
        case rel => exact ⟨k + 1, m + nq, hlt, by go_num, rfl⟩
        case measure => simp [intOf]; omega
      · obtain rfl : k = L := by omega
        have h1 := HS.out
        by_cases h0 : k < F
        · have hmx := hmF.2 h0
          by_cases h2 : k < q
          · have h3 : b[p - 1 - k]? ≠ b[q - 1 - k]? := by
              rcases h1 with h | h | h
              · omega
              · omega
              · exact h
            obtain ⟨pj, hpj⟩ : ∃ pj : Nat, pk = pj + 1 := ⟨pk - 1, by omega⟩
            obtain ⟨qj, hqj⟩ : ∃ qj : Nat, qk = qj + 1 := ⟨qk - 1, by omega⟩
            have hw3 : IntKind.i64.wrap ((pk : Int) - 1) = (pj : Int) := by rw [IntKind.wrap_i64]; omega
            have hw4 : IntKind.i64.wrap ((qk : Int) - 1) = (qj : Int) := by rw [IntKind.wrap_i64]; omega
            rw [show p - 1 - k = pj from by omega, show q - 1 - k = qj from by omega] at h3
            have h2p : pj < b.length := by omega
            have h2q : qj < b.length := by omega
            obtain ⟨bl, off, rfl, _, c1⟩ := HC.out pj (bv (b[pj]'h2p)) (by rw [List.getElem?_map, List.getElem?_eq_getElem h2p]; rfl)
            obtain ⟨bl', off', eq, _, c2⟩ := HC.out qj (bv (b[qj]'h2q)) (by rw [List.getElem?_map, List.getElem?_eq_getElem h2q]; rfl)
            cases eq
            rw [List.getElem?_eq_getElem h2p, List.getElem?_eq_getElem h2q] at h3
            have hxy := u8_ne (fun e => h3 (congrArg some e))
            generalize b[pj]'h2p = x at *
            generalize b[qj]'h2q = y at *
            have hq0 : (0 : Int) < (qk : Int) := by omega
            have hpI : (pj : Int) < (b.length : Int) := by omega
            have hqI : (qj : Int) < (b.length : Int) := by omega
            unfold bv at c1 c2
            have HPK := hid (And.intro hpk (And.intro hqk (And.intro hpj hqj)))
            clear h1 h3 hmF hpk hqk hpj hqj
            go_wp2
            have hl2 : ¬ (0 : Int) < least := by omega
            have hg1 : decide (0 < qk) = true := decide_eq_true (by omega)
            have hg0 : decide (0 < pk) = true := decide_eq_true (by omega)
            go_quiet (fail)
            go_wp2
            go_ret
            exact ⟨rfl, m + nq, by first | rfl | rw [World.drewN_drewN]⟩
          · have hq0 : qk = 0 := by omega
            subst hq0
            clear h1 hmF
            go_wp2
            have hl2 : ¬ (0 : Int) < least := by omega
            have hg0 : decide (0 < pk) = true := decide_eq_true (by omega)
            go_quiet (fail)
            go_wp2
            go_ret
            exact ⟨rfl, m + nq, by first | rfl | rw [World.drewN_drewN]⟩
        · have hmx : ¬ 0 < (pk : Int) := fun h => h0 (hmF.1 h)
          clear h1 hmF
          go_wp2
          have hd : decide (0 < (pk : Int)) = false := by simpa using hmx
          have hl2 : ¬ (0 : Int) < least := by omega
          have hg0 : decide (0 < pk) = false := decide_eq_false (by omega)
          go_quiet (fail)
          go_wp2
          go_ret
          exact ⟨rfl, m + nq, by first | rfl | rw [World.drewN_drewN]⟩

theorem rback_any (a : Option Addr) (c : Nat) (b : List UInt8) (pos frm least : Int) (w : World) (hb : b.length ≤ 1000000)
    (hc : ∀ j u, (b.map bv)[j]? = some u → ∃ bl off, a = some ⟨bl, off, none⟩ ∧ bl < w.heap.size ∧ w.cell? ⟨bl, off + j, none⟩ = some u) :
    Calls Try.prog 15 #[.slice a b.length c, .int .i64 pos, .int .i64 frm, .int .i64 least] w fun e w' => e = .returned (.int .i64 (backS b pos frm least : Nat)) ∧ ∃ m, w' = w.drewN m := by
  by_cases hl : 0 < least
  · exact rback_pos a c b pos frm least w hl hb hc
  · exact rback_neg a c b pos frm least w (by omega) hb hc

end Go.Proofs.Ytaoiaiddamnbiaa
