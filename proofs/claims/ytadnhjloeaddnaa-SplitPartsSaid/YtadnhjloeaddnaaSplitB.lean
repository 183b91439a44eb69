/-
  The walks of the split, second part: rise, may, same lists, equal cuts and their reference.
-/
import Derived.Test.YtadnhjloeaddnaaSplitA
namespace Go.Proofs.Ytadnhjloeaddnaa
open Go.RowKit Go.Port

set_option maxRecDepth 100000 in
set_option maxHeartbeats 800000 in
theorem rise_any (size : Int) (r : Bool) (a : Option Addr) (n c : Nat) (cuts : List Int) (w : World) (hn : cuts.length = n) (hnm : n ≤ maxLen)
    (hc : ∀ j u, (cuts.map iv)[j]? = some u → ∃ b off, a = some ⟨b, off, none⟩ ∧ b < w.heap.size ∧ w.cell? ⟨b, off + j, none⟩ = some u) (hr : riseB size 0 cuts = r) :
    Calls Try.prog 27 #[.int .i64 size, .slice a n c] w fun e w' => e = .returned (.bool r) ∧ w = w' := by
  have HC := hid hc
  have HM := hid hr
  clear hc hr
  unfold maxLen at hnm
  go_enter Try.func27, Try.ntmps27
  go_wp2
  go_loop [5, 6] (fun t i => ∃ (k : Nat) (T : Int), k ≤ n ∧ i = .int .i64 k ∧ t = .int .i64 T ∧ Hid (riseB size T (cuts.drop k) = r)) (fun _ i => n - (intOf i).toNat)
  case atStart => exact ⟨0, 0, Nat.zero_le _, rfl, rfl, HM⟩
  case round =>
    obtain ⟨k, T, hk, rfl, rfl, HR⟩ := hrel
    by_cases hlt : k < n
    · obtain ⟨x, hx⟩ : ∃ x, cuts[k]? = some x := ⟨cuts[k]'(by omega), by simp [hn, hlt]⟩
      obtain ⟨b, off, rfl, _, hcell⟩ := HC.out k (iv x) (by simp [hx])
      have hd : cuts.drop k = x :: cuts.drop (k + 1) := by
        rw [List.drop_eq_getElem_cons (by omega)]; congr 1; simpa [hn, hlt] using hx
      have h2 := HR.out
      rw [hd, riseB] at h2
      clear hx hd
      unfold iv at hcell
      by_cases hx0 : T < x
      · by_cases hx1 : x < size
        · have H2 := hid (show riseB size x (cuts.drop (k + 1)) = r from by rw [← h2]; simp [hx0, hx1])
          clear h2
          go_wp2
          go_round
          case rel => exact ⟨k + 1, x, by omega, by go_num, rfl, H2⟩
          case measure => simp [intOf]; omega
        · have H2 := hid (show false = r from by rw [← h2]; simp [hx1])
          clear h2
          go_wp2
          go_ret
          exact ⟨by rw [← H2.out]; rfl, rfl⟩
      · have H2 := hid (show false = r from by rw [← h2]; simp [hx0])
        clear h2
        go_wp2
        go_ret
        exact ⟨by rw [← H2.out]; rfl, rfl⟩
    · obtain rfl : k = n := by omega
      have h2 := HR.out
      rw [List.drop_of_length_le (by omega), riseB] at h2
      have H2 := hid h2
      clear h2
      go_wp2
      go_ret
      exact ⟨by rw [← H2.out]; rfl, rfl⟩

set_option maxRecDepth 100000 in
set_option maxHeartbeats 800000 in
theorem may_any (size most : Int) (a : Option Addr) (n c : Nat) (cuts : List Int) (w : World) (hs0 : 0 ≤ size) (hs1 : size ≤ 9223372036854775807) (hn : cuts.length = n) (hnm : n ≤ maxLen)
    (hc : ∀ j u, (cuts.map iv)[j]? = some u → ∃ b off, a = some ⟨b, off, none⟩ ∧ b < w.heap.size ∧ w.cell? ⟨b, off + j, none⟩ = some u) :
    Calls Try.prog 17 #[.int .i64 size, .int .i64 most, .slice a n c] w (RetV w (.int .i64 (if riseB size 0 cuts = true ∧ mayB (heldI most) size 0 cuts = true then 0 else 2))) := by
  have hh := heldI_bounds most
  cases hr : riseB size 0 cuts with
  | false =>
    rw [if_neg (by simp)]
    have HC := hid (rise_any size false a n c cuts w hn hnm hc hr)
    clear hc hr
    go_enter Try.func17, Try.ntmps17
    go_wp2_with (go_at_call 27; refine HC.out.mono ?_; rintro e w' ⟨rfl, rfl⟩)
    go_ret
    exact ⟨rfl, Below.refl _ _⟩
  | true =>
    have HB := hid (rise_any size true a n c cuts w hn hnm hc hr)
    have HR0 := hid hr
    have HC := hid hc
    clear hc hr
    unfold maxLen at hnm
    generalize hres : (if true = true ∧ mayB (heldI most) size 0 cuts = true then (0 : Int) else 2) = res
    have HRes := hid (show (if mayB (heldI most) size 0 cuts = true then (0 : Int) else 2) = res from by rw [← hres]; simp)
    clear hres
    go_enter Try.func17, Try.ntmps17
    go_wp2_with (go_at_call 27; refine HB.out.mono ?_; rintro e w' ⟨rfl, rfl⟩)
    go_loopw [7, 8] (fun t i wr => ∃ (k q : Nat) (T : Int), k ≤ n ∧ i = .int .i64 k ∧ t = .int .i64 T ∧ 0 ≤ T ∧ T ≤ size ∧ wr = w.drewN q ∧ Hid (riseB size T (cuts.drop k) = true) ∧ Hid ((if mayB (heldI most) size T (cuts.drop k) = true then (0 : Int) else 2) = res)) (fun _ i _ => n - (intOf i).toNat)
    case atStart => exact ⟨0, 0, 0, Nat.zero_le _, rfl, rfl, by omega, by omega, rfl, HR0, HRes⟩
    case round =>
      obtain ⟨k, q, T, hk, rfl, rfl, hT0, hT1, rfl, HR, HM⟩ := hrel
      by_cases hlt : k < n
      · obtain ⟨x, hx⟩ : ∃ x, cuts[k]? = some x := ⟨cuts[k]'(by omega), by simp [hn, hlt]⟩
        obtain ⟨b, off, rfl, _, hcell⟩ := HC.out k (iv x) (by simp [hx])
        have hd : cuts.drop k = x :: cuts.drop (k + 1) := by
          rw [List.drop_eq_getElem_cons (by omega)]; congr 1; simpa [hn, hlt] using hx
        have h2 := HR.out
        have h3 := HM.out
        rw [hd, riseB] at h2
        rw [hd, mayB] at h3
        simp only [Bool.and_eq_true, decide_eq_true_eq] at h2 h3
        obtain ⟨⟨hx0, hx1⟩, h2⟩ := h2
        have H2 := hid h2
        clear hx hd h2
        unfold iv at hcell
        by_cases hx2 : x - T ≤ heldI most
        · have H3 := hid (show (if mayB (heldI most) size x (cuts.drop (k + 1)) = true then (0 : Int) else 2) = res from by rw [← h3]; simp [hx2])
          clear h3
          go_wp2
          go_quiet ((go_at_call 16; exact quiet_left2 (most_any _ _)))
          go_wp2
          go_roundw
          case rel => exact ⟨k + 1, q + nq, x, by omega, by go_num, rfl, by omega, by omega, rfl, H2, H3⟩
          case measure => simp [intOf]; omega
        · have H3 := hid (show 2 = res from by rw [← h3]; simp [hx2])
          clear h3
          go_wp2
          go_quiet ((go_at_call 16; exact quiet_left2 (most_any _ _)))
          go_wp2
          go_ret
          exact ⟨ret_i H3.out, below_drewN (below_drewN (Below.refl _ _) _) _⟩
      · obtain rfl : k = n := by omega
        have h3 := HM.out
        rw [List.drop_of_length_le (by omega), mayB] at h3
        simp only [decide_eq_true_eq] at h3
        by_cases hx2 : size - T ≤ heldI most
        · have H3 := hid (show 0 = res from by rw [← h3]; simp [hx2])
          clear h3
          go_wp2_with (go_at_call 16; refine (most_any _ _).mono ?_; rintro e w' ⟨rfl, rfl⟩)
          go_ret
          exact ⟨ret_i H3.out, below_drewN (Below.refl _ _) _⟩
        · have H3 := hid (show 2 = res from by rw [← h3]; simp [hx2])
          clear h3
          go_wp2_with (go_at_call 16; refine (most_any _ _).mono ?_; rintro e w' ⟨rfl, rfl⟩)
          go_ret
          exact ⟨ret_i H3.out, below_drewN (Below.refl _ _) _⟩

set_option maxRecDepth 100000 in
set_option maxHeartbeats 800000 in
theorem same_yes (a1 a2 : Option Addr) (n c1 c2 : Nat) (l : List Int) (w : World) (hn : l.length = n) (hnm : n ≤ maxLen)
    (hc1 : ∀ j u, (l.map iv)[j]? = some u → ∃ b off, a1 = some ⟨b, off, none⟩ ∧ b < w.heap.size ∧ w.cell? ⟨b, off + j, none⟩ = some u)
    (hc2 : ∀ j u, (l.map iv)[j]? = some u → ∃ b off, a2 = some ⟨b, off, none⟩ ∧ b < w.heap.size ∧ w.cell? ⟨b, off + j, none⟩ = some u) :
    Calls Try.prog 20 #[.slice a1 n c1, .slice a2 n c2] w (RetV w (.bool true)) := by
  have HC1 := hid hc1
  have HC2 := hid hc2
  clear hc1 hc2
  unfold maxLen at hnm
  go_enter Try.func20, Try.ntmps20
  go_wp2
  go_loopw [5] (fun i wr => ∃ k q : Nat, k ≤ n ∧ i = .int .i64 k ∧ wr = w.drewN q) (fun i _ => n - (intOf i).toNat)
  case atStart => exact ⟨0, 0, Nat.zero_le _, rfl, rfl⟩
  case round =>
    obtain ⟨k, q, hk, rfl, rfl⟩ := hrel
    by_cases hlt : k < n
    · obtain ⟨x, hx⟩ : ∃ x, l[k]? = some x := ⟨l[k]'(by omega), by simp [hn, hlt]⟩
      obtain ⟨b1, off1, rfl, _, hcell1⟩ := HC1.out k (iv x) (by simp [hx])
      obtain ⟨b2, off2, rfl, _, hcell2⟩ := HC2.out k (iv x) (by simp [hx])
      clear hx
      unfold iv at hcell1 hcell2
      go_wp2
      go_quiet (fail)
      go_wp2
      go_roundw
      case rel => exact ⟨k + 1, q + nq, by omega, by go_num, rfl⟩
      case measure => simp [intOf]; omega
    · obtain rfl : k = n := by omega
      go_wp2
      go_ret
      exact ⟨rfl, below_drewN (Below.refl _ _) _⟩

set_option maxRecDepth 100000 in
set_option maxHeartbeats 800000 in
theorem eqcuts_any (size most : Int) (w : World) (hs0 : -9223372036854775808 ≤ size) (hs1 : size ≤ 9223372036854775807) :
    Calls Try.prog 19 #[.int .i64 size, .int .i64 most] w (RetSl w 1 (eqCuts size (heldI most)).length ((eqCuts size (heldI most)).map iv)) := by
  have hh := heldI_bounds most
  obtain ⟨i0, hi, hz0, hz1, hz2⟩ := info_parts Try.info_int
  have HH := hid (held_any most)
  generalize heldI most = h at *
  have hinv : ∀ k : Nat, ((k : Int) + 1) * h < size ↔ k < eqN size h := eqN_lt hh.1
  have HI := hid hinv
  clear hinv
  by_cases hbig : 65536 < eqN size h
  · have hs : 0 < size := by
      rcases Int.lt_or_le 0 size with h | h
      · exact h
      · unfold eqN at hbig
        rw [if_pos h] at hbig
        omega
    have HB := hid (show eqCuts size h = [] from if_pos hbig)
    have t1 : 65536 < (size - 1) / h := (eqN_big hs hh.1).1 hbig
    clear hbig
    go_enter Try.func19, Try.ntmps19
    go_wp2_with (go_at_call 32; refine (HH.out _).mono ?_; rintro e w' ⟨rfl, rfl⟩)
    go_ret
    exact ⟨_, rfl, by rw [HB.out]; exact Sl.nil _ _, Below.refl _ _⟩
  · have HB := hid (show eqCuts size h = eqL h (eqN size h) from if_neg hbig)
    have hsz := eqN_size hh.1 hh.2 hbig
    have HN := hid (show eqN size h ≤ 65536 from by omega)
    have t1 : 0 < size → ¬ 65536 < (size - 1) / h := fun hs hx => hbig ((eqN_big hs hh.1).2 hx)
    clear hbig
    generalize hN : eqN size h = N at *
    clear hN
    by_cases hs : 0 < size
    · have t2 := t1 hs
      clear t1
      go_enter Try.func19, Try.ntmps19
      go_wp2_with (go_at_call 32; refine (HH.out _).mono ?_; rintro e w' ⟨rfl, rfl⟩)
      go_loopw [4, 5] (fun v i wr => ∃ (k : Nat) (x : Int), k ≤ N ∧ i = .int .i64 x ∧ Hid (x = ((k : Int) + 1) * h) ∧ 0 ≤ x ∧ x ≤ 8590200000 ∧ wr.ownsRow w.heap.size 3 1 v k ((eqL h k).map iv) ∧ Below w.heap.size w wr) (fun _ i _ => (8590200000 - intOf i).toNat)
      case atStart => exact ⟨0, h, Nat.zero_le _, rfl, hid (by simp), by omega, by omega, World.ownsRow_nil _ _ _ _, Below.refl _ _⟩
      case round =>
        obtain ⟨k, x, hk, rfl, HX, hx0, hx1, hown, hB⟩ := hrel
        have hinv := HI.out k
        rw [← HX.out] at hinv
        have hsz1 := hB.size
        have hN := HN.out
        by_cases hlt : k < N
        · have hxs := hinv.2 hlt
          have HS := hid (eqL_succ h k)
          have HK := hid hlt
          have hk6 : k < 65536 := by omega
          clear hinv hlt hN hk
          go_wp2_with (at_builtin; refine Hid.out ?_)
          refine hid ?_
          refine wpList_append1 rfl _ _ 29 rfl 3 _ 1 8 Try.underlying29 Try.info_int rfl (by decide) (by decide) _ w.heap.size _ _ _ _ rfl ?hu rfl rfl (by exact hown) ?hn ?hb ?hk
          case hu => simp [Value.oneCell']
          case hn => omega
          case hb => exact hsz1
          case hk =>
            intro v' w1 hown' hg
            have hB' := hB.trans (below_grown hown hg hsz1)
            go_wp2_with (go_at_call 32; refine (HH.out _).mono ?_; rintro e w' ⟨rfl, rfl⟩)
            go_roundw
            case rel =>
              have hkk := HK.out
              refine ⟨k + 1, x + h, hkk, by go_num, hid ?_, by omega, by omega, ?_, hB'⟩
              · rw [HX.out]
                exact eq_step h k
              · rw [HS.out, List.map_append]
                rw [HX.out] at hown'
                exact hown'
            case measure => simp [intOf]; omega
        · have hxs : ¬ x < size := fun hx => hlt (hinv.1 hx)
          obtain rfl : k = N := by omega
          have HBL := hid (show (eqCuts size h).length = k from by rw [HB.out, eqL_length])
          clear hinv hlt hN hk
          go_wp2
          go_ret
          refine ⟨_, rfl, ?_, hB⟩
          rw [HBL.out, HB.out]
          exact Sl.of_owns hown
    · clear t1
      have H0 := hid (show eqCuts size h = [] from by
        have hn := HI.out 0
        rw [HB.out]
        have : N = 0 := by
          rcases Nat.eq_zero_or_pos N with h0 | h0
          · exact h0
          · have := hn.2 h0
            simp at this
            omega
        rw [this]
        rfl)
      go_enter Try.func19, Try.ntmps19
      go_wp2_with (go_at_call 32; refine (HH.out _).mono ?_; rintro e w' ⟨rfl, rfl⟩)
      go_loopw [4, 5] (fun v i wr => v = .slice none 0 0 ∧ i = .int .i64 h ∧ wr = w) (fun _ i _ => (intOf i).toNat)
      case atStart => exact ⟨rfl, rfl, rfl⟩
      case round =>
        obtain ⟨rfl, rfl, rfl⟩ := hrel
        have hx : ¬ h < size := by omega
        go_wp2
        go_ret
        exact ⟨_, rfl, by rw [H0.out]; exact Sl.nil _ _, Below.refl _ _⟩

set_option maxRecDepth 100000 in
set_option maxHeartbeats 800000 in
theorem even_any (size most : Int) (w : World) (hs0 : -9223372036854775808 ≤ size) (hs1 : size ≤ 9223372036854775807) :
    Calls Try.prog 21 #[.int .i64 size, .int .i64 most] w (RetSl w 1 (eqCuts size (heldI most)).length ((eqCuts size (heldI most)).map iv)) := by
  have hh := heldI_bounds most
  obtain ⟨i0, hi, hz0, hz1, hz2⟩ := info_parts Try.info_int
  have HH := hid (most_any most)
  generalize heldI most = h at *
  have hinv : ∀ k : Nat, ((k : Int) + 1) * h < size ↔ k < eqN size h := eqN_lt hh.1
  have HI := hid hinv
  clear hinv
  by_cases hbig : 65536 < eqN size h
  · have hs : 0 < size := by
      rcases Int.lt_or_le 0 size with h | h
      · exact h
      · unfold eqN at hbig
        rw [if_pos h] at hbig
        omega
    have HB := hid (show eqCuts size h = [] from if_pos hbig)
    have t1 : 65536 < (size - 1) / h := (eqN_big hs hh.1).1 hbig
    clear hbig
    go_enter Try.func21, Try.ntmps21
    go_wp2_with (go_at_call 16; refine (HH.out _).mono ?_; rintro e w' ⟨rfl, rfl⟩)
    go_ret
    exact ⟨_, rfl, by rw [HB.out]; exact Sl.nil _ _, Below.refl _ _⟩
  · have HB := hid (show eqCuts size h = eqL h (eqN size h) from if_neg hbig)
    have hsz := eqN_size hh.1 hh.2 hbig
    have HN := hid (show eqN size h ≤ 65536 from by omega)
    have t1 : 0 < size → ¬ 65536 < (size - 1) / h := fun hs hx => hbig ((eqN_big hs hh.1).2 hx)
    clear hbig
    generalize hN : eqN size h = N at *
    clear hN
    by_cases hs : 0 < size
    · have t2 := t1 hs
      clear t1
      go_enter Try.func21, Try.ntmps21
      go_wp2_with (go_at_call 16; refine (HH.out _).mono ?_; rintro e w' ⟨rfl, rfl⟩)
      go_loopw [5, 6] (fun v i wr => ∃ (k : Nat) (x : Int), k ≤ N ∧ i = .int .i64 x ∧ Hid (x = ((k : Int) + 1) * h) ∧ 0 ≤ x ∧ x ≤ 8590200000 ∧ wr.ownsRow w.heap.size 3 1 v k ((eqL h k).map iv) ∧ Below w.heap.size w wr) (fun _ i _ => (8590200000 - intOf i).toNat)
      case atStart => exact ⟨0, h, Nat.zero_le _, rfl, hid (by simp), by omega, by omega, World.ownsRow_nil _ _ _ _, Below.refl _ _⟩
      case round =>
        obtain ⟨k, x, hk, rfl, HX, hx0, hx1, hown, hB⟩ := hrel
        have hinv := HI.out k
        rw [← HX.out] at hinv
        have hsz1 := hB.size
        have hN := HN.out
        by_cases hlt : k < N
        · have hxs := hinv.2 hlt
          have HS := hid (eqL_succ h k)
          have HK := hid hlt
          have hk6 : k < 65536 := by omega
          clear hinv hlt hN hk
          go_wp2_with (at_builtin; refine Hid.out ?_)
          refine hid ?_
          refine wpList_append1 rfl _ _ 29 rfl 3 _ 1 8 Try.underlying29 Try.info_int rfl (by decide) (by decide) _ w.heap.size _ _ _ _ rfl ?hu rfl rfl (by exact hown) ?hn ?hb ?hk
          case hu => simp [Value.oneCell']
          case hn => omega
          case hb => exact hsz1
          case hk =>
            intro v' w1 hown' hg
            have hB' := hB.trans (below_grown hown hg hsz1)
            go_wp2_with (go_at_call 16; refine (HH.out _).mono ?_; rintro e w' ⟨rfl, rfl⟩)
            go_roundw
            case rel =>
              have hkk := HK.out
              refine ⟨k + 1, x + h, hkk, by go_num, hid ?_, by omega, by omega, ?_, hB'⟩
              · rw [HX.out]
                exact eq_step h k
              · rw [HS.out, List.map_append]
                rw [HX.out] at hown'
                exact hown'
            case measure => simp [intOf]; omega
        · have hxs : ¬ x < size := fun hx => hlt (hinv.1 hx)
          obtain rfl : k = N := by omega
          have HBL := hid (show (eqCuts size h).length = k from by rw [HB.out, eqL_length])
          clear hinv hlt hN hk
          go_wp2
          go_ret
          refine ⟨_, rfl, ?_, hB⟩
          rw [HBL.out, HB.out]
          exact Sl.of_owns hown
    · clear t1
      have H0 := hid (show eqCuts size h = [] from by
        have hn := HI.out 0
        rw [HB.out]
        have : N = 0 := by
          rcases Nat.eq_zero_or_pos N with h0 | h0
          · exact h0
          · have := hn.2 h0
            simp at this
            omega
        rw [this]
        rfl)
      go_enter Try.func21, Try.ntmps21
      go_wp2_with (go_at_call 16; refine (HH.out _).mono ?_; rintro e w' ⟨rfl, rfl⟩)
      go_loopw [5, 6] (fun v i wr => v = .slice none 0 0 ∧ i = .int .i64 h ∧ wr = w) (fun _ i _ => (intOf i).toNat)
      case atStart => exact ⟨rfl, rfl, rfl⟩
      case round =>
        obtain ⟨rfl, rfl, rfl⟩ := hrel
        have hx : ¬ h < size := by omega
        go_wp2
        go_ret
        exact ⟨_, rfl, by rw [H0.out]; exact Sl.nil _ _, Below.refl _ _⟩
end Go.Proofs.Ytadnhjloeaddnaa
