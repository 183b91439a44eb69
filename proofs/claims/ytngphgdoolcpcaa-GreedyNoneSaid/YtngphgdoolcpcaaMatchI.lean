/-
  The walks of layer 28, ninth part: the reference's cost of a plan.
-/
import Derived.Test.YtngphgdoolcpcaaMatchH
namespace Go.Proofs.Ytngphgdoolcpcaa
open Go.RowKit Go.Port

set_option maxRecDepth 100000 in
set_option maxHeartbeats 4000000 in
theorem rprice_any (a : Option Addr) (c : Nat) (size : Int) (l : List Sq) (w : World) (hs2 : size ≤ 1099511627776) (hl : l.length ≤ 100000) (hin : ∀ s ∈ l, InSq s)
    (hc : ∀ j u, (l.flatMap sqc)[j]? = some u → ∃ bl off, a = some ⟨bl, off, none⟩ ∧ bl < w.heap.size ∧ w.cell? ⟨bl, off + j, none⟩ = some u) :
    Calls Try.prog 30 #[.int .i64 size, .slice a l.length c] w (RetV w (costR (costM size l))) := by
  have HC := hid (fun W (hW : Below w.heap.size w W) j u (hu : (l.flatMap sqc)[j]? = some u) => (show ∃ bl off, a = some ⟨bl, off, none⟩ ∧ bl < W.heap.size ∧ W.cell? ⟨bl, off + j, none⟩ = some u from by
    obtain ⟨bl, off, h1, h2, h3⟩ := hc j u hu
    exact ⟨bl, off, h1, Nat.lt_of_lt_of_le h2 hW.size, (hW.cell (p := ⟨bl, off + j, none⟩) h2).trans h3⟩))
  clear hc
  have HIN := hid hin
  clear hin
  have HML := hid rlog_any
  generalize hR : costM size l = R
  have HR := hid hR
  clear hR
  by_cases h0 : size < 0
  · have HR2 := hid (show R = none from by rw [← HR.out]; unfold costM; rw [if_pos h0])
    go_enter Try.func30, Try.ntmps30
    go_wp2
    (try simp only [Exit.inBlock, Exit.then])
    refine bodyPost_ret (v := .tuple #[.int .i64 0, .int .i64 15]) (by simp [results, Try.results30, go_sem]) rfl ?_
    exact ⟨by rw [HR2.out]; rfl, Below.refl _ _⟩
  · have HR2 := hid (show costGoM size (8 * size) l = R from by rw [← HR.out]; unfold costM; rw [if_neg h0])
    go_enter Try.func30, Try.ntmps30
    go_wp2
    go_loopw [6, 7, 8, 9] (fun v6 v7 v8 i wr => ∃ (k : Nat) (left price lits : Int), k ≤ l.length ∧ v6 = .int .i64 left ∧ v7 = .int .i64 price ∧ v8 = .int .i64 lits ∧ i = .int .i64 k ∧ Hid (costGoM left (price + 8 * lits) (l.drop k) = R) ∧ (0 ≤ left ∧ left ≤ lits ∧ lits ≤ 1099511627776 ∧ 0 ≤ price ∧ price ≤ 75 * k) ∧ Below w.heap.size w wr) (fun _ _ _ i _ => l.length - (intOf i).toNat)
    case atStart => exact ⟨0, size, 0, size, Nat.zero_le _, rfl, rfl, rfl, rfl, hid (by have := HR2.out; rwa [Int.zero_add]), ⟨by omega, by omega, by omega, by omega, by omega⟩, Below.refl _ _⟩
    case round =>
      obtain ⟨k, left, price, lits, hk, rfl, rfl, rfl, rfl, HG, ⟨hl0, hl1, hl2, hp0, hp1⟩, hB⟩ := hrel
      have HBk := hid hB
      clear hB
      by_cases hlt : k < l.length
      · obtain ⟨s, hx⟩ : ∃ s, l[k]? = some s := ⟨l[k], by simp [hlt]⟩
        have hdr : l.drop k = s :: l.drop (k + 1) := by
          obtain ⟨h1, h2⟩ := List.getElem?_eq_some_iff.1 hx
          rw [List.drop_eq_getElem_cons h1, h2]
        have hG := HG.out
        rw [hdr] at hG
        unfold costGoM at hG
        obtain ⟨bl, off, rfl, hb0, c0⟩ := HC.out wr HBk.out (k * 3 + 0) (.int .i64 s.lit) (by rw [sqc_get hx 0 (by omega)]; rfl)
        obtain ⟨bl1, off1, e1, _, c1⟩ := HC.out wr HBk.out (k * 3 + 1) (.int .i64 s.len) (by rw [sqc_get hx 1 (by omega)]; rfl)
        cases e1
        obtain ⟨bl2, off2, e2, _, c2⟩ := HC.out wr HBk.out (k * 3 + 2) (.int .i64 s.off) (by rw [sqc_get hx 2 (by omega)]; rfl)
        cases e2
        rw [Nat.add_zero] at c0
        rw [← Nat.add_assoc] at c1 c2
        have hsq := HIN.out s (List.mem_of_getElem? hx)
        obtain ⟨sl, sn, so⟩ := s
        obtain ⟨⟨i1, i2⟩, ⟨i3, i4⟩, ⟨i5, i6⟩⟩ := hsq
        dsimp only at hG c0 c1 c2 i1 i2 i3 i4 i5 i6
        have HBx := hid (HBk.out.alloc HBk.out.size (.cells #[.int .i64 sl, .int .i64 sn, .int .i64 so] 45))
        have hkI : (k : Int) < (l.length : Int) := by omega
        clear hdr hx
        by_cases q1 : sl < 0
        · have hbad : seqBad left ⟨sl, sn, so⟩ = true := by unfold seqBad; simp [q1]
          rw [if_pos hbad] at hG
          have HR3 := hid hG.symm
          clear hbad hG
          go_wp2
          (try simp only [Exit.inBlock, Exit.then])
          refine bodyPost_ret (v := .tuple #[.int .i64 0, .int .i64 15]) (by simp [results, Try.results30, go_sem]) rfl ?_
          exact ⟨by rw [HR3.out]; rfl, HBx.out⟩
        by_cases q2 : sn < 3
        · have hbad : seqBad left ⟨sl, sn, so⟩ = true := by unfold seqBad; simp [q2]
          rw [if_pos hbad] at hG
          have HR3 := hid hG.symm
          clear hbad hG
          go_wp2
          (try simp only [Exit.inBlock, Exit.then])
          refine bodyPost_ret (v := .tuple #[.int .i64 0, .int .i64 15]) (by simp [results, Try.results30, go_sem]) rfl ?_
          exact ⟨by rw [HR3.out]; rfl, HBx.out⟩
        by_cases q3 : so < 1
        · have hbad : seqBad left ⟨sl, sn, so⟩ = true := by unfold seqBad; simp [q3]
          rw [if_pos hbad] at hG
          have HR3 := hid hG.symm
          clear hbad hG
          go_wp2
          (try simp only [Exit.inBlock, Exit.then])
          refine bodyPost_ret (v := .tuple #[.int .i64 0, .int .i64 15]) (by simp [results, Try.results30, go_sem]) rfl ?_
          exact ⟨by rw [HR3.out]; rfl, HBx.out⟩
        by_cases q4 : left < sl
        · have hbad : seqBad left ⟨sl, sn, so⟩ = true := by unfold seqBad; simp [q4]
          rw [if_pos hbad] at hG
          have HR3 := hid hG.symm
          clear hbad hG
          go_wp2
          (try simp only [Exit.inBlock, Exit.then])
          refine bodyPost_ret (v := .tuple #[.int .i64 0, .int .i64 15]) (by simp [results, Try.results30, go_sem]) rfl ?_
          exact ⟨by rw [HR3.out]; rfl, HBx.out⟩
        by_cases q5 : left - sl < sn
        · have hbad : seqBad left ⟨sl, sn, so⟩ = true := by unfold seqBad; simp [q5]
          rw [if_pos hbad] at hG
          have HR3 := hid hG.symm
          clear hbad hG
          have hw5 : IntKind.i64.wrap (left - sl) = left - sl := by rw [IntKind.wrap_i64]; omega
          go_wp2
          (try simp only [Exit.inBlock, Exit.then])
          refine bodyPost_ret (v := .tuple #[.int .i64 0, .int .i64 15]) (by simp [results, Try.results30, go_sem]) rfl ?_
          exact ⟨by rw [HR3.out]; rfl, HBx.out⟩
        have hgood : seqBad left ⟨sl, sn, so⟩ = false := by unfold seqBad; simp [q1, q2, q3, q4, q5]
        rw [hgood] at hG
        simp only [Bool.false_eq_true, if_false] at hG
        have hLL := logI_le i6
        have HLog := hid (fun W => HML.out so W i6)
        generalize logI so = L at *
        have HG2 := hid (show costGoM (left - sl - sn) (price + 12 + L + 8 * (lits - sn)) (l.drop (k + 1)) = R from by
          rw [show left - sl - sn = left - (sl + sn) from by omega, show price + 12 + L + 8 * (lits - sn) = price + 8 * lits + (12 + L - 8 * sn) from by omega]
          exact hG)
        clear hG hgood
        obtain ⟨hL0, hL1⟩ := hLL
        have hw5 : IntKind.i64.wrap (left - sl) = left - sl := by rw [IntKind.wrap_i64]; omega
        have hw6 : IntKind.i64.wrap (left - sl - sn) = left - sl - sn := by rw [IntKind.wrap_i64]; omega
        have hw7 : IntKind.i64.wrap (lits - sn) = lits - sn := by rw [IntKind.wrap_i64]; omega
        have hw8 : IntKind.i64.wrap (price + 12) = price + 12 := by rw [IntKind.wrap_i64]; omega
        have hw9 : IntKind.i64.wrap (price + 12 + L) = price + 12 + L := by rw [IntKind.wrap_i64]; omega
        go_wp2_with fail
        refine (HLog.out _).mono ?_
        rintro e w1 ⟨rfl, rfl⟩
        go_wp2
        go_roundw
        case rel => exact ⟨k + 1, left - sl - sn, price + 12 + L, lits - sn, hlt, rfl, rfl, rfl, by go_num, HG2.out, ⟨by omega, by omega, by omega, by omega, by omega⟩, HBx.out⟩
        case measure => simp [intOf]; omega
      · obtain rfl : k = l.length := by omega
        have hG := HG.out
        rw [List.drop_of_length_le (Nat.le_refl _)] at hG
        have HR3 := hid (show R = some (price + 8 * lits) from hG.symm)
        have hw5 : IntKind.i64.wrap (8 * lits) = 8 * lits := by rw [IntKind.wrap_i64]; omega
        have hw6 : IntKind.i64.wrap (price + 8 * lits) = price + 8 * lits := by rw [IntKind.wrap_i64]; omega
        clear hG
        go_wp2
        (try simp only [Exit.inBlock, Exit.then])
        refine bodyPost_ret (v := .tuple #[.int .i64 (price + 8 * lits), .int .i64 0]) (by simp [results, Try.results30, go_sem]) rfl ?_
        exact ⟨by rw [HR3.out]; rfl, HBk.out⟩

end Go.Proofs.Ytngphgdoolcpcaa
