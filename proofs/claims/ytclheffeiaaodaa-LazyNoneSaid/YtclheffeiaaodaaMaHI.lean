/-
  The walks of layer 28, eighth part: the cost of a plan.
  The walks of layer 28, ninth part: the reference's cost of a plan.
-/
import Derived.Test.YtclheffeiaaodaaMaEG
import Derived.Test.YtclheffeiaaodaaMatchD
namespace Go.Port
open Go.RowKit
def InSq (s : Sq) : Prop := InI s.lit ∧ InI s.len ∧ InI s.off
theorem logI_le {n : Int} (h : n ≤ 9223372036854775807) : 0 ≤ logI n ∧ logI n ≤ 62 := by
  have := log2_63 h
  unfold logI
  omega
def costR (o : Option Int) : Value := .tuple #[.int .i64 (o.getD 0), .int .i64 (if o.isSome then 0 else 15)]
end Go.Port
namespace Go.Proofs.Ytclheffeiaaodaa
open Go.RowKit Go.Port

theorem prices_any (w : World) : Calls Try.prog 44 #[] w (RetV w (.agg #[.int .i64 8, .int .i64 12])) := by
  have HP := hid (Blk.new w [.int .i64 8, .int .i64 12] 62)
  have HB := hid (below_new w (.cells #[.int .i64 8, .int .i64 12] 62))
  go_enter Try.func44, Try.ntmps44
  go_wp2
  have r0 := HP.out.cell (k := 0) rfl
  have r1 := HP.out.cell (k := 1) rfl
  have hb9 := HB.out
  clear HP HB
  generalize w.alloc (.cells #[.int .i64 8, .int .i64 12] 62) = W9 at *
  (try simp only [Exit.inBlock, Exit.then])
  refine bodyPost_ret (v := .agg #[.int .i64 8, .int .i64 12]) (by simp [results, Try.results44, go_sem, r0, r1]) rfl ?_
  exact ⟨rfl, hb9⟩

set_option maxRecDepth 100000 in
set_option maxHeartbeats 4000000 in
theorem cost_any (a : Option Addr) (c : Nat) (size : Int) (l : List Sq) (w : World) (hs : -9223372036854775808 ≤ size) (hs2 : size ≤ 1099511627776) (hl : l.length ≤ 100000) (hin : ∀ s ∈ l, InSq s)
    (hc : ∀ j u, (l.flatMap sqc)[j]? = some u → ∃ bl off, a = some ⟨bl, off, none⟩ ∧ bl < w.heap.size ∧ w.cell? ⟨bl, off + j, none⟩ = some u) :
    Calls Try.prog 25 #[.int .i64 size, .slice a l.length c] w (RetV w (costR (costM size l))) := by
  have HC := hid (fun W (hW : Below w.heap.size w W) j u (hu : (l.flatMap sqc)[j]? = some u) => (show ∃ bl off, a = some ⟨bl, off, none⟩ ∧ bl < W.heap.size ∧ W.cell? ⟨bl, off + j, none⟩ = some u from by
    obtain ⟨bl, off, h1, h2, h3⟩ := hc j u hu
    exact ⟨bl, off, h1, Nat.lt_of_lt_of_le h2 hW.size, (hW.cell (p := ⟨bl, off + j, none⟩) h2).trans h3⟩))
  clear hc
  have HIN := hid hin
  clear hin
  have HP := hid (fun W => prices_any W)
  have HML := hid mlog_any
  generalize hR : costM size l = R
  have HR := hid hR
  clear hR
  go_enter Try.func25, Try.ntmps25
  go_wp2_with fail
  refine wp_scope_jumps 0 (fun a' w' => R = none ∧ (∃ x0 x1 x2 x3 x4 x6 x7 x8 x9 x10 x11 x12 x13 x14 x15 x16 x17 x18 x19 x20 x21 x22 x23 x24 x25 x26 x27 x28 x29 x30 x31 x32 x33 x34 x35 x36 x37 x38 x39 x40 x41 x42 x43 x44 x45 x46 x47 x48 x49 x50 x51 x52 x53 x54 x55 x56 x57 x58 x59 x60 x61 x62 x63 x64 x65 x66 x67 x68 x69 x70 x71 x72 x73 x74 x75 : Value, a' = { tmps := #[x0, x1, x2, x3, x4, .int .i64 15, x6, x7, x8, x9, x10, x11, x12, x13, x14, x15, x16, x17, x18, x19, x20, x21, x22, x23, x24, x25, x26, x27, x28, x29, x30, x31, x32, x33, x34, x35, x36, x37, x38, x39, x40, x41, x42, x43, x44, x45, x46, x47, x48, x49, x50, x51, x52, x53, x54, x55, x56, x57, x58, x59, x60, x61, x62, x63, x64, x65, x66, x67, x68, x69, x70, x71, x72, x73, x74, x75], defers := [] } ∧ Below w.heap.size w w')) (fun _ _ => 0) rfl ?first ?pass
  case pass =>
    rintro a1 w1 ⟨rfl, x0, x1, x2, x3, x4, x6, x7, x8, x9, x10, x11, x12, x13, x14, x15, x16, x17, x18, x19, x20, x21, x22, x23, x24, x25, x26, x27, x28, x29, x30, x31, x32, x33, x34, x35, x36, x37, x38, x39, x40, x41, x42, x43, x44, x45, x46, x47, x48, x49, x50, x51, x52, x53, x54, x55, x56, x57, x58, x59, x60, x61, x62, x63, x64, x65, x66, x67, x68, x69, x70, x71, x72, x73, x74, x75, rfl, hb⟩
    have HB := hid hb
    clear hb
    go_wp2
    simp only [Exit.jump]
    refine bodyPost_ret (v := .tuple #[.int .i64 0, .int .i64 15]) (by simp [results, Try.results25, go_sem]) rfl ?_
    exact ⟨rfl, HB.out⟩
  case first =>
    go_wp2_with fail
    refine (HP.out _).mono ?_
    rintro e w1 ⟨rfl, hb1⟩
    have HB1 := hid ((hb1.alloc hb1.size (.cells #[.int .i64 8, .int .i64 12] 62)))
    have HB0 := hid hb1
    have HPr := hid (Blk.new w1 [.int .i64 8, .int .i64 12] 62)
    have hw1 : w.heap.size ≤ w1.heap.size := hb1.size
    clear hb1
    by_cases h0 : size < 0
    · have HR2 := hid (show R = none from by rw [← HR.out]; unfold costM; rw [if_pos h0])
      go_wp2
      refine wp_goto ?_
      refine ⟨rfl, HR2.out, ?_⟩
      repeat apply Exists.intro
      exact ⟨rfl, HB1.out⟩
    · have HR2 := hid (show costGoM size (8 * size) l = R from by rw [← HR.out]; unfold costM; rw [if_neg h0])
      have hw8 : IntKind.i64.wrap (8 * size) = 8 * size := by rw [IntKind.wrap_i64]; omega
      have c80 := HPr.out.cell (k := 0) rfl
      have c81 := HPr.out.cell (k := 1) rfl
      go_wp2
      clear c80 c81
      go_loopw [4, 6, 20] (fun v4 v6 i wr => ∃ (k : Nat) (left price : Int), k ≤ l.length ∧ v4 = .int .i64 price ∧ v6 = .int .i64 left ∧ i = .int .i64 k ∧ Hid (costGoM left price (l.drop k) = R) ∧ (0 ≤ left ∧ left ≤ 1099511627776 ∧ 8 * left ≤ price ∧ price ≤ 8796093022208 + 75 * k) ∧ Blk wr w1.heap.size [.int .i64 8, .int .i64 12] 62 ∧ Below w.heap.size w wr) (fun _ _ i _ => l.length - (intOf i).toNat)
      case atStart => exact ⟨0, size, 8 * size, Nat.zero_le _, rfl, rfl, rfl, HR2.out, ⟨by omega, by omega, by omega, by omega⟩, HPr.out, HB1.out⟩
      case round =>
        obtain ⟨k, left, price, hk, rfl, rfl, rfl, HG, ⟨hl0, hl1, hp0, hp1⟩, hPr, hB⟩ := hrel
        have HPk := hid hPr
        have HBk := hid hB
        have d0 := hPr.cell (k := 0) rfl
        have d1 := hPr.cell (k := 1) rfl
        have hltw := hPr.lt
        clear hPr hB
        by_cases hlt : k < l.length
        · obtain ⟨s, hx⟩ : ∃ s, l[k]? = some s := ⟨l[k], by simp [hlt]⟩
          have hdr : l.drop k = s :: l.drop (k + 1) := by
            obtain ⟨h1, h2⟩ := List.getElem?_eq_some_iff.1 hx
            rw [List.drop_eq_getElem_cons h1, h2]
          have hG := HG.out
          rw [hdr] at hG
          unfold costGoM at hG
          obtain ⟨bl, off, rfl, hb0, c0⟩ := HC.out wr HBk.out (k * 3 + 0) (.int .i64 s.lit) (by rw [sqc_get hx 0 (by omega)]; rfl)
          obtain ⟨bl1, off1, e1, _, c1⟩ := HC.out wr HBk.out (k * 3 + 1) (.int .i64 s.len) (by rw [sqc_get hx 1 (by omega)]; rfl)
          cases e1
          obtain ⟨bl2, off2, e2, _, c2⟩ := HC.out wr HBk.out (k * 3 + 2) (.int .i64 s.off) (by rw [sqc_get hx 2 (by omega)]; rfl)
          cases e2
          rw [Nat.add_zero] at c0
          rw [← Nat.add_assoc] at c1 c2
          have hsq := HIN.out s (List.mem_of_getElem? hx)
          obtain ⟨sl, sn, so⟩ := s
          obtain ⟨⟨i1, i2⟩, ⟨i3, i4⟩, ⟨i5, i6⟩⟩ := hsq
          dsimp only at hG c0 c1 c2 i1 i2 i3 i4 i5 i6
          have HBx := hid (HBk.out.alloc HBk.out.size (.cells #[.int .i64 sl, .int .i64 sn, .int .i64 so] 49))
          have HPx := hid (HPk.out.alloc (.cells #[.int .i64 sl, .int .i64 sn, .int .i64 so] 49))
          have hkI : (k : Int) < (l.length : Int) := by omega
          clear hdr hx
          by_cases q1 : sl < 0
          · have hbad : seqBad left ⟨sl, sn, so⟩ = true := by unfold seqBad; simp [q1]
            rw [if_pos hbad] at hG
            have HR3 := hid hG.symm
            clear hbad hG
            go_wp2
            refine wp_goto ?_
            refine ⟨rfl, HR3.out, ?_⟩
            repeat apply Exists.intro
            exact ⟨rfl, HBx.out⟩
          by_cases q2 : sn < 3
          · have hbad : seqBad left ⟨sl, sn, so⟩ = true := by unfold seqBad; simp [q2]
            rw [if_pos hbad] at hG
            have HR3 := hid hG.symm
            clear hbad hG
            go_wp2
            refine wp_goto ?_
            refine ⟨rfl, HR3.out, ?_⟩
            repeat apply Exists.intro
            exact ⟨rfl, HBx.out⟩
          by_cases q3 : so < 1
          · have hbad : seqBad left ⟨sl, sn, so⟩ = true := by unfold seqBad; simp [q3]
            rw [if_pos hbad] at hG
            have HR3 := hid hG.symm
            clear hbad hG
            go_wp2
            refine wp_goto ?_
            refine ⟨rfl, HR3.out, ?_⟩
            repeat apply Exists.intro
            exact ⟨rfl, HBx.out⟩
          by_cases q4 : left < sl
          · have hbad : seqBad left ⟨sl, sn, so⟩ = true := by unfold seqBad; simp [q4]
            rw [if_pos hbad] at hG
            have HR3 := hid hG.symm
            clear hbad hG
            go_wp2
            refine wp_goto ?_
            refine ⟨rfl, HR3.out, ?_⟩
            repeat apply Exists.intro
            exact ⟨rfl, HBx.out⟩
          by_cases q5 : left - sl < sn
          · have hbad : seqBad left ⟨sl, sn, so⟩ = true := by unfold seqBad; simp [q5]
            rw [if_pos hbad] at hG
            have HR3 := hid hG.symm
            clear hbad hG
            have hw5 : IntKind.i64.wrap (left - sl) = left - sl := by rw [IntKind.wrap_i64]; omega
            go_wp2
            refine wp_goto ?_
            refine ⟨rfl, HR3.out, ?_⟩
            repeat apply Exists.intro
            exact ⟨rfl, HBx.out⟩
          have hgood : seqBad left ⟨sl, sn, so⟩ = false := by unfold seqBad; simp [q1, q2, q3, q4, q5]
          rw [hgood] at hG
          simp only [Bool.false_eq_true, if_false] at hG
          have HG2 := hid hG
          clear hG hgood
          have hLL := logI_le i6
          have HLog := hid (fun W => HML.out so W i5 i6)
          generalize logI so = L at *
          obtain ⟨hL0, hL1⟩ := hLL
          have hw5 : IntKind.i64.wrap (left - sl) = left - sl := by rw [IntKind.wrap_i64]; omega
          have hw6 : IntKind.i64.wrap (sl + sn) = sl + sn := by rw [IntKind.wrap_i64]; omega
          have hw7 : IntKind.i64.wrap (left - (sl + sn)) = left - (sl + sn) := by rw [IntKind.wrap_i64]; omega
          have hw8 : IntKind.i64.wrap (8 * sn) = 8 * sn := by rw [IntKind.wrap_i64]; omega
          have hw9 : IntKind.i64.wrap (12 + L) = 12 + L := by rw [IntKind.wrap_i64]; omega
          have hw10 : IntKind.i64.wrap (12 + L - 8 * sn) = 12 + L - 8 * sn := by rw [IntKind.wrap_i64]; omega
          have hw11 : IntKind.i64.wrap (price + (12 + L - 8 * sn)) = price + (12 + L - 8 * sn) := by rw [IntKind.wrap_i64]; omega
          go_wp2
          go_quiet ((go_at_call 45; first | exact quiet_left (HLog.out _) | exact quiet_left2 (HLog.out _)))
          go_wp2
          go_roundw
          case rel => exact ⟨k + 1, left - (sl + sn), price + (12 + L - 8 * sn), hlt, rfl, rfl, by go_num, HG2.out, ⟨by omega, by omega, by omega, by omega⟩, HPx.out, below_drewN HBx.out _⟩
          case measure => simp [intOf]; omega
        · obtain rfl : k = l.length := by omega
          have hG := HG.out
          rw [List.drop_of_length_le (Nat.le_refl _)] at hG
          have HR3 := hid (show R = some price from hG.symm)
          clear hG
          go_wp2
          (try simp only [Exit.inBlock, Exit.then])
          refine bodyPost_ret (v := .tuple #[.int .i64 price, .int .i64 0]) (by simp [results, Try.results25, go_sem]) rfl ?_
          exact ⟨by rw [HR3.out]; rfl, HBk.out⟩

end Go.Proofs.Ytclheffeiaaodaa
namespace Go.Proofs.Ytclheffeiaaodaa
open Go.RowKit Go.Port

set_option maxRecDepth 100000 in
set_option maxHeartbeats 4000000 in
theorem rprice_any (a : Option Addr) (c : Nat) (size : Int) (l : List Sq) (w : World) (hs2 : size ≤ 1099511627776) (hl : l.length ≤ 100000) (hin : ∀ s ∈ l, InSq s)
    (hc : ∀ j u, (l.flatMap sqc)[j]? = some u → ∃ bl off, a = some ⟨bl, off, none⟩ ∧ bl < w.heap.size ∧ w.cell? ⟨bl, off + j, none⟩ = some u) :
    Calls Try.prog 37 #[.int .i64 size, .slice a l.length c] w (RetV w (costR (costM size l))) := by
  have HC := hid (fun W (hW : Below w.heap.size w W) j u (hu : (l.flatMap sqc)[j]? = some u) => (show ∃ bl off, a = some ⟨bl, off, none⟩ ∧ bl < W.heap.size ∧ W.cell? ⟨bl, off + j, none⟩ = some u from by
    obtain ⟨bl, off, h1, h2, h3⟩ := hc j u hu
    exact ⟨bl, off, h1, Nat.lt_of_lt_of_le h2 hW.size, (hW.cell (p := ⟨bl, off + j, none⟩) h2).trans h3⟩))
  clear hc
  have HIN := hid hin
  clear hin
  have HML := hid rlog_any
  generalize hR : costM size l = R
  have HR := hid hR
  clear hR
  by_cases h0 : size < 0
  · have HR2 := hid (show R = none from by rw [← HR.out]; unfold costM; rw [if_pos h0])
    go_enter Try.func37, Try.ntmps37
    go_wp2
    (try simp only [Exit.inBlock, Exit.then])
    refine bodyPost_ret (v := .tuple #[.int .i64 0, .int .i64 15]) (by simp [results, Try.results37, go_sem]) rfl ?_
    exact ⟨by rw [HR2.out]; rfl, Below.refl _ _⟩
  · have HR2 := hid (show costGoM size (8 * size) l = R from by rw [← HR.out]; unfold costM; rw [if_neg h0])
    go_enter Try.func37, Try.ntmps37
    go_wp2
    go_loopw [6, 7, 8, 9] (fun v6 v7 v8 i wr => ∃ (k : Nat) (left price lits : Int), k ≤ l.length ∧ v6 = .int .i64 left ∧ v7 = .int .i64 price ∧ v8 = .int .i64 lits ∧ i = .int .i64 k ∧ Hid (costGoM left (price + 8 * lits) (l.drop k) = R) ∧ (0 ≤ left ∧ left ≤ lits ∧ lits ≤ 1099511627776 ∧ 0 ≤ price ∧ price ≤ 75 * k) ∧ Below w.heap.size w wr) (fun _ _ _ i _ => l.length - (intOf i).toNat)
    case atStart => exact ⟨0, size, 0, size, Nat.zero_le _, rfl, rfl, rfl, rfl, hid (by have := HR2.out; rwa [Int.zero_add]), ⟨by omega, by omega, by omega, by omega, by omega⟩, Below.refl _ _⟩
    case round =>
      obtain ⟨k, left, price, lits, hk, rfl, rfl, rfl, rfl, HG, ⟨hl0, hl1, hl2, hp0, hp1⟩, hB⟩ := hrel
      have HBk := hid hB
      clear hB
      by_cases hlt : k < l.length
      · obtain ⟨s, hx⟩ : ∃ s, l[k]? = some s := ⟨l[k], by simp [hlt]⟩
        have hdr : l.drop k = s :: l.drop (k + 1) := by
          obtain ⟨h1, h2⟩ := List.getElem?_eq_some_iff.1 hx
          rw [List.drop_eq_getElem_cons h1, h2]
        have hG := HG.out
        rw [hdr] at hG
        unfold costGoM at hG
        obtain ⟨bl, off, rfl, hb0, c0⟩ := HC.out wr HBk.out (k * 3 + 0) (.int .i64 s.lit) (by rw [sqc_get hx 0 (by omega)]; rfl)
        obtain ⟨bl1, off1, e1, _, c1⟩ := HC.out wr HBk.out (k * 3 + 1) (.int .i64 s.len) (by rw [sqc_get hx 1 (by omega)]; rfl)
        cases e1
        obtain ⟨bl2, off2, e2, _, c2⟩ := HC.out wr HBk.out (k * 3 + 2) (.int .i64 s.off) (by rw [sqc_get hx 2 (by omega)]; rfl)
        cases e2
        rw [Nat.add_zero] at c0
        rw [← Nat.add_assoc] at c1 c2
        have hsq := HIN.out s (List.mem_of_getElem? hx)
        obtain ⟨sl, sn, so⟩ := s
        obtain ⟨⟨i1, i2⟩, ⟨i3, i4⟩, ⟨i5, i6⟩⟩ := hsq
        dsimp only at hG c0 c1 c2 i1 i2 i3 i4 i5 i6
        have HBx := hid (HBk.out.alloc HBk.out.size (.cells #[.int .i64 sl, .int .i64 sn, .int .i64 so] 49))
        have hkI : (k : Int) < (l.length : Int) := by omega
        clear hdr hx
        by_cases q1 : sl < 0
        · have hbad : seqBad left ⟨sl, sn, so⟩ = true := by unfold seqBad; simp [q1]
          rw [if_pos hbad] at hG
          have HR3 := hid hG.symm
          clear hbad hG
          go_wp2
          (try simp only [Exit.inBlock, Exit.then])
          refine bodyPost_ret (v := .tuple #[.int .i64 0, .int .i64 15]) (by simp [results, Try.results37, go_sem]) rfl ?_
          exact ⟨by rw [HR3.out]; rfl, HBx.out⟩
        by_cases q2 : sn < 3
        · have hbad : seqBad left ⟨sl, sn, so⟩ = true := by unfold seqBad; simp [q2]
          rw [if_pos hbad] at hG
          have HR3 := hid hG.symm
          clear hbad hG
          go_wp2
          (try simp only [Exit.inBlock, Exit.then])
          refine bodyPost_ret (v := .tuple #[.int .i64 0, .int .i64 15]) (by simp [results, Try.results37, go_sem]) rfl ?_
          exact ⟨by rw [HR3.out]; rfl, HBx.out⟩
        by_cases q3 : so < 1
        · have hbad : seqBad left ⟨sl, sn, so⟩ = true := by unfold seqBad; simp [q3]
          rw [if_pos hbad] at hG
          have HR3 := hid hG.symm
          clear hbad hG
          go_wp2
          (try simp only [Exit.inBlock, Exit.then])
          refine bodyPost_ret (v := .tuple #[.int .i64 0, .int .i64 15]) (by simp [results, Try.results37, go_sem]) rfl ?_
          exact ⟨by rw [HR3.out]; rfl, HBx.out⟩
        by_cases q4 : left < sl
        · have hbad : seqBad left ⟨sl, sn, so⟩ = true := by unfold seqBad; simp [q4]
          rw [if_pos hbad] at hG
          have HR3 := hid hG.symm
          clear hbad hG
          go_wp2
          (try simp only [Exit.inBlock, Exit.then])
          refine bodyPost_ret (v := .tuple #[.int .i64 0, .int .i64 15]) (by simp [results, Try.results37, go_sem]) rfl ?_
          exact ⟨by rw [HR3.out]; rfl, HBx.out⟩
        by_cases q5 : left - sl < sn
        · have hbad : seqBad left ⟨sl, sn, so⟩ = true := by unfold seqBad; simp [q5]
          rw [if_pos hbad] at hG
          have HR3 := hid hG.symm
          clear hbad hG
          have hw5 : IntKind.i64.wrap (left - sl) = left - sl := by rw [IntKind.wrap_i64]; omega
          go_wp2
          (try simp only [Exit.inBlock, Exit.then])
          refine bodyPost_ret (v := .tuple #[.int .i64 0, .int .i64 15]) (by simp [results, Try.results37, go_sem]) rfl ?_
          exact ⟨by rw [HR3.out]; rfl, HBx.out⟩
        have hgood : seqBad left ⟨sl, sn, so⟩ = false := by unfold seqBad; simp [q1, q2, q3, q4, q5]
        rw [hgood] at hG
        simp only [Bool.false_eq_true, if_false] at hG
        have hLL := logI_le i6
        have HLog := hid (fun W => HML.out so W i6)
        generalize logI so = L at *
        have HG2 := hid (show costGoM (left - sl - sn) (price + 12 + L + 8 * (lits - sn)) (l.drop (k + 1)) = R from by
          rw [show left - sl - sn = left - (sl + sn) from by omega, show price + 12 + L + 8 * (lits - sn) = price + 8 * lits + (12 + L - 8 * sn) from by omega]
          exact hG)
        clear hG hgood
        obtain ⟨hL0, hL1⟩ := hLL
        have hw5 : IntKind.i64.wrap (left - sl) = left - sl := by rw [IntKind.wrap_i64]; omega
        have hw6 : IntKind.i64.wrap (left - sl - sn) = left - sl - sn := by rw [IntKind.wrap_i64]; omega
        have hw7 : IntKind.i64.wrap (lits - sn) = lits - sn := by rw [IntKind.wrap_i64]; omega
        have hw8 : IntKind.i64.wrap (price + 12) = price + 12 := by rw [IntKind.wrap_i64]; omega
        have hw9 : IntKind.i64.wrap (price + 12 + L) = price + 12 + L := by rw [IntKind.wrap_i64]; omega
        go_wp2_with fail
        refine (HLog.out _).mono ?_
        rintro e w1 ⟨rfl, rfl⟩
        go_wp2
        go_roundw
        case rel => exact ⟨k + 1, left - sl - sn, price + 12 + L, lits - sn, hlt, rfl, rfl, rfl, by go_num, HG2.out, ⟨by omega, by omega, by omega, by omega, by omega⟩, HBx.out⟩
        case measure => simp [intOf]; omega
      · obtain rfl : k = l.length := by omega
        have hG := HG.out
        rw [List.drop_of_length_le (Nat.le_refl _)] at hG
        have HR3 := hid (show R = some (price + 8 * lits) from hG.symm)
        have hw5 : IntKind.i64.wrap (8 * lits) = 8 * lits := by rw [IntKind.wrap_i64]; omega
        have hw6 : IntKind.i64.wrap (price + 8 * lits) = price + 8 * lits := by rw [IntKind.wrap_i64]; omega
        clear hG
        go_wp2
        (try simp only [Exit.inBlock, Exit.then])
        refine bodyPost_ret (v := .tuple #[.int .i64 (price + 8 * lits), .int .i64 0]) (by simp [results, Try.results37, go_sem]) rfl ?_
        exact ⟨by rw [HR3.out]; rfl, HBk.out⟩

end Go.Proofs.Ytclheffeiaaodaa
