/-
  The repeated offsets (layer 21): right, which, told, must, goes.
-/
import Derived.Test.YtolmmfbgljgdcaaGreatRpA
import Derived.Test.YtolmmfbgljgdcaaGreatPrF
import Derived.Deep.RegionHeld3
import Derived.Deep.DeepCutAuto
import Derived.LoopN
namespace Go.Port
open Go.RowKit
theorem Mod.trans {B N : Nat} {A A1 A2 : World} (h : Mod B N A A1) (h' : Mod B N A1 A2) : Mod B N A A2 := ⟨h'.os.trans h.os, h'.tape.trans h.tape, h'.output.trans h.output, Nat.le_trans h.size h'.size, fun k hk hc => (h'.same k (Nat.lt_of_lt_of_le hk h.size) hc).trans (h.same k hk hc)⟩
theorem Mod.set {B N : Nat} {A A1 : World} (h : Mod B N A A1) {a : Addr} (ha : (B ≤ a.block ∧ a.block < N) ∨ A.heap.size ≤ a.block) (u : Value) : Mod B N A (A1.setCell a u) :=
  ⟨h.os, h.tape, h.output, by have := h.size; simpa using this, fun k hk hc => (Below.heap_setCell A1 a u k (by omega)).trans (h.same k hk hc)⟩
theorem Mod.wide {B N B' N' : Nat} {A A1 : World} (h : Mod B N A A1) (hB : B' ≤ B) (hN : N ≤ N') : Mod B' N' A A1 := ⟨h.os, h.tape, h.output, h.size, fun k hk hc => h.same k hk (by omega)⟩
end Go.Port
namespace Go.Proofs.YtolmmfbgljgdcaaGreat
open Go.RowKit Go.Port

theorem rpwhich_any (w : World) : Calls Tryz.prog 102 #[] w (RetV w (.agg #[.int .i64 0, .int .i64 1, .int .i64 2, .int .i64 1, .int .i64 2, .int .i64 3])) := by
  have HB := hid (below_new w (.cells #[.int .i64 0, .int .i64 1, .int .i64 2, .int .i64 1, .int .i64 2, .int .i64 3] 135))
  have HX := hid (Blk.new w [.int .i64 0, .int .i64 1, .int .i64 2, .int .i64 1, .int .i64 2, .int .i64 3] 135)
  go_enter Tryz.func102, Tryz.ntmps102
  go_wp2
  have p0 := HX.out.cell (k := 0) rfl
  have p1 := HX.out.cell (k := 1) rfl
  have p2 := HX.out.cell (k := 2) rfl
  have p3 := HX.out.cell (k := 3) rfl
  have p4 := HX.out.cell (k := 4) rfl
  have p5 := HX.out.cell (k := 5) rfl
  refine bodyPost_ret (v := .agg #[.int .i64 0, .int .i64 1, .int .i64 2, .int .i64 1, .int .i64 2, .int .i64 3]) (by simp [results, Tryz.results102, go_sem, p0, p1, p2, p3, p4, p5]) rfl ?_
  exact ⟨rfl, HB.out⟩
theorem rpix0 (w : World) : (Instr.index 135 (.agg #[.int .i64 0, .int .i64 1, .int .i64 2, .int .i64 1, .int .i64 2, .int .i64 3]) (.int .i64 0)).run Tryz.prog w = .ok (.agg #[.int .i64 0, .int .i64 1, .int .i64 2]) w := by kernel_rfl
theorem rpix1 (w : World) : (Instr.index 135 (.agg #[.int .i64 0, .int .i64 1, .int .i64 2, .int .i64 1, .int .i64 2, .int .i64 3]) (.int .i64 1)).run Tryz.prog w = .ok (.agg #[.int .i64 1, .int .i64 2, .int .i64 3]) w := by kernel_rfl
theorem rpmust_ok (n : Int) (w : World) : Calls Tryz.prog 78 #[.bool true, .int .i64 n] w fun e w' => e = .returned (.tuple #[]) ∧ w = w' := by
  go_enter Tryz.func78, Tryz.ntmps78
  go_wp2
  go_end0
  exact ⟨rfl, rfl⟩
theorem rpmust_bad (n : Int) (w : World) : Calls Tryz.prog 78 #[.bool false, .int .i64 n] w fun e w' => e = .panicked [{ v := .iface 33 (.int .i64 n), recovered := false }] ∧ w = w' := by
  go_enter Tryz.func78, Tryz.ntmps78
  go_wp2
  exact ⟨rfl, rfl, rfl⟩
theorem rptix (r0 r1 r2 : Int) (w : World) : (Instr.index 88 (.agg #[.int .i64 r0, .int .i64 r1, .int .i64 r2]) (.int .i64 0)).run Tryz.prog w = .ok (.int .i64 r0) w ∧ (Instr.index 88 (.agg #[.int .i64 r0, .int .i64 r1, .int .i64 r2]) (.int .i64 1)).run Tryz.prog w = .ok (.int .i64 r1) w ∧ (Instr.index 88 (.agg #[.int .i64 r0, .int .i64 r1, .int .i64 r2]) (.int .i64 2)).run Tryz.prog w = .ok (.int .i64 r2) w := ⟨by kernel_rfl, by kernel_rfl, by kernel_rfl⟩
set_option maxRecDepth 100000 in
set_option maxHeartbeats 2000000 in
theorem rpright_any (r0 r1 r2 : Int) (w : World) : Calls Tryz.prog 79 #[.agg #[.int .i64 r0, .int .i64 r1, .int .i64 r2]] w (RetV w (.bool (rRight r0 r1 r2))) := by
  have HB := hid (below_new w (.cells #[.int .i64 r0, .int .i64 r1, .int .i64 r2] 88))
  have HX := hid (Blk.new w [.int .i64 r0, .int .i64 r1, .int .i64 r2] 88)
  have c0 := HX.out.cell (k := 0) rfl
  have c1 := HX.out.cell (k := 1) rfl
  have c2 := HX.out.cell (k := 2) rfl
  have i0 := fun W => (rptix r0 r1 r2 W).1
  have i1 := fun W => (rptix r0 r1 r2 W).2.1
  have i2 := fun W => (rptix r0 r1 r2 W).2.2
  go_enter Tryz.func79, Tryz.ntmps79
  go_wp2_with fail
  clear c0 c1 c2
  generalize w.alloc (.cells #[.int .i64 r0, .int .i64 r1, .int .i64 r2] 88) = w1 at *
  go_loopw [6] (fun i wr => ((i = .int .i64 0) ∨ (i = .int .i64 1 ∧ winOk r0 = true) ∨ (i = .int .i64 2 ∧ winOk r0 = true ∧ winOk r1 = true) ∨ (i = .int .i64 3 ∧ winOk r0 = true ∧ winOk r1 = true ∧ winOk r2 = true)) ∧ wr = w1) (fun i _ => 3 - (intOf i).toNat)
  case atStart => exact ⟨.inl rfl, rfl⟩
  case round =>
    obtain ⟨hi, rfl⟩ := hrel
    rcases hi with rfl | ⟨rfl, h0⟩ | ⟨rfl, h0, h1⟩ | ⟨rfl, h0, h1, h2⟩
    · cases e : winOk r0 with
      | true =>
        obtain ⟨q1, q2⟩ := winOk_true e
        have q3 : ¬ 134217728 < r0 := by omega
        have q4 : ¬ r0 < 1 := by omega
        go_wp2
        go_roundw
        case rel => exact ⟨.inr (.inl ⟨rfl, (by first | exact e | trivial)⟩), by trivial⟩
        case measure => simp [intOf]
      | false =>
        rcases winOk_false e with q | q
        · go_wp2
          go_ret
          exact ⟨by simp [rRight, e], HB.out⟩
        · have q4 : ¬ r0 < 1 := by omega
          go_wp2
          go_ret
          exact ⟨by simp [rRight, e], HB.out⟩
    · cases e : winOk r1 with
      | true =>
        obtain ⟨q1, q2⟩ := winOk_true e
        have q3 : ¬ 134217728 < r1 := by omega
        have q4 : ¬ r1 < 1 := by omega
        go_wp2
        go_roundw
        case rel => exact ⟨.inr (.inr (.inl ⟨rfl, h0, (by first | exact e | trivial)⟩)), by trivial⟩
        case measure => simp [intOf]
      | false =>
        rcases winOk_false e with q | q
        · go_wp2
          go_ret
          exact ⟨by simp [rRight, e, h0], HB.out⟩
        · have q4 : ¬ r1 < 1 := by omega
          go_wp2
          go_ret
          exact ⟨by simp [rRight, e, h0], HB.out⟩
    · cases e : winOk r2 with
      | true =>
        obtain ⟨q1, q2⟩ := winOk_true e
        have q3 : ¬ 134217728 < r2 := by omega
        have q4 : ¬ r2 < 1 := by omega
        go_wp2
        go_roundw
        case rel => exact ⟨.inr (.inr (.inr (⟨rfl, h0, h1, (by first | exact e | trivial)⟩))), by trivial⟩
        case measure => simp [intOf]
      | false =>
        rcases winOk_false e with q | q
        · go_wp2
          go_ret
          exact ⟨by simp [rRight, e, h0, h1], HB.out⟩
        · have q4 : ¬ r2 < 1 := by omega
          go_wp2
          go_ret
          exact ⟨by simp [rRight, e, h0, h1], HB.out⟩
    · go_wp2
      go_ret
      exact ⟨by simp [rRight, h0, h1, h2], HB.out⟩
set_option maxRecDepth 100000 in
set_option maxHeartbeats 2000000 in
theorem rptold_any (r0 r1 r2 lit v : Int) (h1 : 1 ≤ v) (h2 : v ≤ 134217731) (hr : 1 ≤ r0 ∧ r0 ≤ 134217728) (sB : Nat) (w : World) (h : Blk w sB [.int .i64 r0, .int .i64 r1, .int .i64 r2] 90) :
    Calls Tryz.prog 80 #[.pointer (some ⟨sB, 0, none⟩), .int .i64 lit, .int .i64 v] w (RetV w (.tuple #[.int .i64 (toldF r0 r1 r2 lit v).1, .int .i64 (toldF r0 r1 r2 lit v).2])) := by
  have HS := hid h
  have hw0 : IntKind.i64.wrap (r0 - 1) = r0 - 1 := by rw [IntKind.wrap_i64]; omega
  clear h
  by_cases h3 : 3 < v
  · have hw : IntKind.i64.wrap (v - 3) = v - 3 := by rw [IntKind.wrap_i64]; omega
    go_enter Tryz.func80, Tryz.ntmps80
    go_wp2
    go_ret2
    exact ⟨by simp [toldF, h3], Below.refl _ _⟩
  · have hv : v = 1 ∨ v = 2 ∨ v = 3 := by omega
    have hx0 := rpix0
    have hx1 := rpix1
    rcases hv with rfl | rfl | rfl <;> by_cases hl : lit = 0
    · go_enter Tryz.func80, Tryz.ntmps80
      go_wp2_with fail
      refine (rpwhich_any _).mono ?_
      rintro e w2 ⟨rfl, hb⟩
      have hbn := hb.trans ((below_new w2 (.cells #[.int .i64 0, .int .i64 1, .int .i64 2] 40)).mono hb.size)
      have HB3 := hid hbn
      have HS3 := hid (HS.out.below hbn HS.out.lt)
      have HN3 := hid (Blk.new w2 [.int .i64 0, .int .i64 1, .int .i64 2] 40)
      have hlt : sB < w2.heap.size := Nat.lt_of_lt_of_le HS.out.lt hb.size
      have hwl : w.heap.size ≤ w2.heap.size := hb.size
      clear hb hbn
      go_wp2_with fail
      generalize w2.alloc (.cells #[.int .i64 0, .int .i64 1, .int .i64 2] 40) = w3 at *
      generalize w2.heap.size = q at *
      refine (rpwhich_any _).mono ?_
      rintro e w4 ⟨rfl, hb⟩
      have HB4 := hid (HB3.out.trans (hb.mono HB3.out.size))
      have HS4 := hid (HS3.out.below hb HS3.out.lt)
      have HN4 := hid (HN3.out.below hb HN3.out.lt)
      clear hb HB3 HS3 HN3
      have y0 := HN4.out.cell (k := 0) rfl
      have z0 := HN4.out.frozen 0
      have y1 := HN4.out.cell (k := 1) rfl
      have z1 := HN4.out.frozen 1
      have y2 := HN4.out.cell (k := 2) rfl
      have z2 := HN4.out.frozen 2
      go_upto_region 6 with fail
      have HN5 := hid (((HN4.out.set 0 (.int .i64 1)).set 1 (.int .i64 2)).set 2 (.int .i64 3))
      have HS5 := hid (((HS4.out.other (a := ⟨q, 0, none⟩) (.int .i64 1) (by dsimp only; omega)).other (a := ⟨q, 1, none⟩) (.int .i64 2) (by dsimp only; omega)).other (a := ⟨q, 2, none⟩) (.int .i64 3) (by dsimp only; omega))
      have HB5 := hid (((HB4.out.setCell (p := ⟨q, 0, none⟩) (by dsimp only; omega) (.int .i64 1)).setCell (p := ⟨q, 1, none⟩) (by dsimp only; omega) (.int .i64 2)).setCell (p := ⟨q, 2, none⟩) (by dsimp only; omega) (.int .i64 3))
      clear y0 y1 y2 z0 z1 z2 HN4 HS4 HB4
      generalize ((w4.setCell ⟨q, 0, none⟩ (.int .i64 1)).setCell ⟨q, 1, none⟩ (.int .i64 2)).setCell ⟨q, 2, none⟩ (.int .i64 3) = w5 at *
      have y0 := HN5.out.cell (k := 0) rfl
      have c0 := HS5.out.cell (k := 0) rfl
      have y1 := HN5.out.cell (k := 1) rfl
      have c1 := HS5.out.cell (k := 1) rfl
      have y2 := HN5.out.cell (k := 2) rfl
      have c2 := HS5.out.cell (k := 2) rfl
      go_wp2
      go_ret2
      exact ⟨by simp [toldF, hl], HB5.out⟩
    · go_enter Tryz.func80, Tryz.ntmps80
      go_wp2_with fail
      refine (rpwhich_any _).mono ?_
      rintro e w2 ⟨rfl, hb⟩
      have hbn := hb.trans ((below_new w2 (.cells #[.int .i64 0, .int .i64 1, .int .i64 2] 40)).mono hb.size)
      have HB3 := hid hbn
      have HS3 := hid (HS.out.below hbn HS.out.lt)
      have HN3 := hid (Blk.new w2 [.int .i64 0, .int .i64 1, .int .i64 2] 40)
      have hlt : sB < w2.heap.size := Nat.lt_of_lt_of_le HS.out.lt hb.size
      have hwl : w.heap.size ≤ w2.heap.size := hb.size
      clear hb hbn
      go_upto_region 6 with fail
      generalize w2.alloc (.cells #[.int .i64 0, .int .i64 1, .int .i64 2] 40) = w3 at *
      generalize w2.heap.size = q at *
      have y0 := HN3.out.cell (k := 0) rfl
      have c0 := HS3.out.cell (k := 0) rfl
      have y1 := HN3.out.cell (k := 1) rfl
      have c1 := HS3.out.cell (k := 1) rfl
      have y2 := HN3.out.cell (k := 2) rfl
      have c2 := HS3.out.cell (k := 2) rfl
      go_wp2
      go_ret2
      exact ⟨by simp [toldF, hl], HB3.out⟩
    · go_enter Tryz.func80, Tryz.ntmps80
      go_wp2_with fail
      refine (rpwhich_any _).mono ?_
      rintro e w2 ⟨rfl, hb⟩
      have hbn := hb.trans ((below_new w2 (.cells #[.int .i64 0, .int .i64 1, .int .i64 2] 40)).mono hb.size)
      have HB3 := hid hbn
      have HS3 := hid (HS.out.below hbn HS.out.lt)
      have HN3 := hid (Blk.new w2 [.int .i64 0, .int .i64 1, .int .i64 2] 40)
      have hlt : sB < w2.heap.size := Nat.lt_of_lt_of_le HS.out.lt hb.size
      have hwl : w.heap.size ≤ w2.heap.size := hb.size
      clear hb hbn
      go_wp2_with fail
      generalize w2.alloc (.cells #[.int .i64 0, .int .i64 1, .int .i64 2] 40) = w3 at *
      generalize w2.heap.size = q at *
      refine (rpwhich_any _).mono ?_
      rintro e w4 ⟨rfl, hb⟩
      have HB4 := hid (HB3.out.trans (hb.mono HB3.out.size))
      have HS4 := hid (HS3.out.below hb HS3.out.lt)
      have HN4 := hid (HN3.out.below hb HN3.out.lt)
      clear hb HB3 HS3 HN3
      have y0 := HN4.out.cell (k := 0) rfl
      have z0 := HN4.out.frozen 0
      have y1 := HN4.out.cell (k := 1) rfl
      have z1 := HN4.out.frozen 1
      have y2 := HN4.out.cell (k := 2) rfl
      have z2 := HN4.out.frozen 2
      go_upto_region 6 with fail
      have HN5 := hid (((HN4.out.set 0 (.int .i64 1)).set 1 (.int .i64 2)).set 2 (.int .i64 3))
      have HS5 := hid (((HS4.out.other (a := ⟨q, 0, none⟩) (.int .i64 1) (by dsimp only; omega)).other (a := ⟨q, 1, none⟩) (.int .i64 2) (by dsimp only; omega)).other (a := ⟨q, 2, none⟩) (.int .i64 3) (by dsimp only; omega))
      have HB5 := hid (((HB4.out.setCell (p := ⟨q, 0, none⟩) (by dsimp only; omega) (.int .i64 1)).setCell (p := ⟨q, 1, none⟩) (by dsimp only; omega) (.int .i64 2)).setCell (p := ⟨q, 2, none⟩) (by dsimp only; omega) (.int .i64 3))
      clear y0 y1 y2 z0 z1 z2 HN4 HS4 HB4
      generalize ((w4.setCell ⟨q, 0, none⟩ (.int .i64 1)).setCell ⟨q, 1, none⟩ (.int .i64 2)).setCell ⟨q, 2, none⟩ (.int .i64 3) = w5 at *
      have y0 := HN5.out.cell (k := 0) rfl
      have c0 := HS5.out.cell (k := 0) rfl
      have y1 := HN5.out.cell (k := 1) rfl
      have c1 := HS5.out.cell (k := 1) rfl
      have y2 := HN5.out.cell (k := 2) rfl
      have c2 := HS5.out.cell (k := 2) rfl
      go_wp2
      go_ret2
      exact ⟨by simp [toldF, hl], HB5.out⟩
    · go_enter Tryz.func80, Tryz.ntmps80
      go_wp2_with fail
      refine (rpwhich_any _).mono ?_
      rintro e w2 ⟨rfl, hb⟩
      have hbn := hb.trans ((below_new w2 (.cells #[.int .i64 0, .int .i64 1, .int .i64 2] 40)).mono hb.size)
      have HB3 := hid hbn
      have HS3 := hid (HS.out.below hbn HS.out.lt)
      have HN3 := hid (Blk.new w2 [.int .i64 0, .int .i64 1, .int .i64 2] 40)
      have hlt : sB < w2.heap.size := Nat.lt_of_lt_of_le HS.out.lt hb.size
      have hwl : w.heap.size ≤ w2.heap.size := hb.size
      clear hb hbn
      go_upto_region 6 with fail
      generalize w2.alloc (.cells #[.int .i64 0, .int .i64 1, .int .i64 2] 40) = w3 at *
      generalize w2.heap.size = q at *
      have y0 := HN3.out.cell (k := 0) rfl
      have c0 := HS3.out.cell (k := 0) rfl
      have y1 := HN3.out.cell (k := 1) rfl
      have c1 := HS3.out.cell (k := 1) rfl
      have y2 := HN3.out.cell (k := 2) rfl
      have c2 := HS3.out.cell (k := 2) rfl
      go_wp2
      go_ret2
      exact ⟨by simp [toldF, hl], HB3.out⟩
    · go_enter Tryz.func80, Tryz.ntmps80
      go_wp2_with fail
      refine (rpwhich_any _).mono ?_
      rintro e w2 ⟨rfl, hb⟩
      have hbn := hb.trans ((below_new w2 (.cells #[.int .i64 0, .int .i64 1, .int .i64 2] 40)).mono hb.size)
      have HB3 := hid hbn
      have HS3 := hid (HS.out.below hbn HS.out.lt)
      have HN3 := hid (Blk.new w2 [.int .i64 0, .int .i64 1, .int .i64 2] 40)
      have hlt : sB < w2.heap.size := Nat.lt_of_lt_of_le HS.out.lt hb.size
      have hwl : w.heap.size ≤ w2.heap.size := hb.size
      clear hb hbn
      go_wp2_with fail
      generalize w2.alloc (.cells #[.int .i64 0, .int .i64 1, .int .i64 2] 40) = w3 at *
      generalize w2.heap.size = q at *
      refine (rpwhich_any _).mono ?_
      rintro e w4 ⟨rfl, hb⟩
      have HB4 := hid (HB3.out.trans (hb.mono HB3.out.size))
      have HS4 := hid (HS3.out.below hb HS3.out.lt)
      have HN4 := hid (HN3.out.below hb HN3.out.lt)
      clear hb HB3 HS3 HN3
      have y0 := HN4.out.cell (k := 0) rfl
      have z0 := HN4.out.frozen 0
      have y1 := HN4.out.cell (k := 1) rfl
      have z1 := HN4.out.frozen 1
      have y2 := HN4.out.cell (k := 2) rfl
      have z2 := HN4.out.frozen 2
      go_upto_region 6 with fail
      have HN5 := hid (((HN4.out.set 0 (.int .i64 1)).set 1 (.int .i64 2)).set 2 (.int .i64 3))
      have HS5 := hid (((HS4.out.other (a := ⟨q, 0, none⟩) (.int .i64 1) (by dsimp only; omega)).other (a := ⟨q, 1, none⟩) (.int .i64 2) (by dsimp only; omega)).other (a := ⟨q, 2, none⟩) (.int .i64 3) (by dsimp only; omega))
      have HB5 := hid (((HB4.out.setCell (p := ⟨q, 0, none⟩) (by dsimp only; omega) (.int .i64 1)).setCell (p := ⟨q, 1, none⟩) (by dsimp only; omega) (.int .i64 2)).setCell (p := ⟨q, 2, none⟩) (by dsimp only; omega) (.int .i64 3))
      clear y0 y1 y2 z0 z1 z2 HN4 HS4 HB4
      generalize ((w4.setCell ⟨q, 0, none⟩ (.int .i64 1)).setCell ⟨q, 1, none⟩ (.int .i64 2)).setCell ⟨q, 2, none⟩ (.int .i64 3) = w5 at *
      have y0 := HN5.out.cell (k := 0) rfl
      have c0 := HS5.out.cell (k := 0) rfl
      have y1 := HN5.out.cell (k := 1) rfl
      have c1 := HS5.out.cell (k := 1) rfl
      have y2 := HN5.out.cell (k := 2) rfl
      have c2 := HS5.out.cell (k := 2) rfl
      go_wp2
      go_ret2
      exact ⟨by simp [toldF, hl], HB5.out⟩
    · go_enter Tryz.func80, Tryz.ntmps80
      go_wp2_with fail
      refine (rpwhich_any _).mono ?_
      rintro e w2 ⟨rfl, hb⟩
      have hbn := hb.trans ((below_new w2 (.cells #[.int .i64 0, .int .i64 1, .int .i64 2] 40)).mono hb.size)
      have HB3 := hid hbn
      have HS3 := hid (HS.out.below hbn HS.out.lt)
      have HN3 := hid (Blk.new w2 [.int .i64 0, .int .i64 1, .int .i64 2] 40)
      have hlt : sB < w2.heap.size := Nat.lt_of_lt_of_le HS.out.lt hb.size
      have hwl : w.heap.size ≤ w2.heap.size := hb.size
      clear hb hbn
      go_upto_region 6 with fail
      generalize w2.alloc (.cells #[.int .i64 0, .int .i64 1, .int .i64 2] 40) = w3 at *
      generalize w2.heap.size = q at *
      have y0 := HN3.out.cell (k := 0) rfl
      have c0 := HS3.out.cell (k := 0) rfl
      have y1 := HN3.out.cell (k := 1) rfl
      have c1 := HS3.out.cell (k := 1) rfl
      have y2 := HN3.out.cell (k := 2) rfl
      have c2 := HS3.out.cell (k := 2) rfl
      go_wp2
      go_ret2
      exact ⟨by simp [toldF, hl], HB3.out⟩
set_option maxRecDepth 100000 in
set_option maxHeartbeats 4000000 in
theorem rpgoes_any (r0 r1 r2 lit len v : Int) (hr : rRight r0 r1 r2 = true) (hl : 0 ≤ lit) (h1 : 1 ≤ v) (h2 : v ≤ 134217731) (hw : winOk (toldF r0 r1 r2 lit v).1 = true) (sB : Nat) (w : World) (h : Blk w sB [.int .i64 r0, .int .i64 r1, .int .i64 r2] 90) :
    Calls Tryz.prog 81 #[.pointer (some ⟨sB, 0, none⟩), .agg #[.int .i64 lit, .int .i64 len, .int .i64 v]] w fun e w' => e = .returned (.agg #[.int .i64 lit, .int .i64 len, .int .i64 (toldF r0 r1 r2 lit v).1]) ∧
      (∃ n0 n1 n2, nextF r0 r1 r2 (toldF r0 r1 r2 lit v) = (n0, n1, n2) ∧ Blk w' sB [.int .i64 n0, .int .i64 n1, .int .i64 n2] 90) ∧ Mod sB (sB + 1) w w' := by
  have HRr := hid (fun W => by have h := rpright_any r0 r1 r2 W; rw [hr] at h; exact h)
  have hr0 : 1 ≤ r0 ∧ r0 ≤ 134217728 := winOk_true (by unfold rRight at hr; simp only [Bool.and_eq_true] at hr; exact hr.1.1)
  have HT := hid (fun W h => rptold_any r0 r1 r2 lit v h1 h2 hr0 sB W h)
  have hat := toldF_at r0 r1 r2 lit v
  have hwo := winOk_true hw
  obtain ⟨off, k, ht⟩ : ∃ off k, toldF r0 r1 r2 lit v = (off, k) := ⟨_, _, rfl⟩
  rw [ht] at HT hat hwo ⊢
  dsimp only at HT hat hwo ⊢
  have hslt : sB < w.heap.size := h.lt
  have HX1 := hid (show Blk ((w.alloc (.cells #[.int .i64 lit, .int .i64 len, .int .i64 v] 92)).alloc (.cells #[.int .i64 0, .int .i64 0, .int .i64 0] 42)) w.heap.size [.int .i64 lit, .int .i64 len, .int .i64 v] 92 from (Blk.newAt rfl).alloc _)
  have HZ1 := hid (show Blk ((w.alloc (.cells #[.int .i64 lit, .int .i64 len, .int .i64 v] 92)).alloc (.cells #[.int .i64 0, .int .i64 0, .int .i64 0] 42)) (w.heap.size + 1) [.int .i64 0, .int .i64 0, .int .i64 0] 42 from Blk.newAt (by simp))
  have hb0 : Below w.heap.size w ((w.alloc (.cells #[.int .i64 lit, .int .i64 len, .int .i64 v] 92)).alloc (.cells #[.int .i64 0, .int .i64 0, .int .i64 0] 42)) := (below_new w _).alloc (by simp) _
  have HS1 := hid (h.below hb0 hslt)
  have HB1 := hid (Mod.of_below (B := sB) (N := sB + 1) hb0)
  have d1 : decide (1 ≤ off) = true := by simp; omega
  have d2 : decide (off ≤ 134217728) = true := by simp; omega
  have d3 : decide (1 ≤ v) = true := by simp; omega
  have d4 : decide (0 ≤ lit) = true := by simp; omega
  clear hr ht h hw hb0
  have c0 := HS1.out.cell (k := 0) rfl
  have c1 := HS1.out.cell (k := 1) rfl
  have c2 := HS1.out.cell (k := 2) rfl
  have x0 := HX1.out.cell (k := 0) rfl
  go_enter Tryz.func81, Tryz.ntmps81
  go_wp2_with fail
  clear c0 c1 c2 x0
  generalize (w.alloc (.cells #[.int .i64 lit, .int .i64 len, .int .i64 v] 92)).alloc (.cells #[.int .i64 0, .int .i64 0, .int .i64 0] 42) = w1 at *
  refine (HRr.out _).mono ?_
  rintro e w2 ⟨rfl, hb⟩
  have HX2 := hid (HX1.out.below hb HX1.out.lt)
  have HZ2 := hid (HZ1.out.below hb HZ1.out.lt)
  have HS2 := hid (HS1.out.below hb HS1.out.lt)
  have HB2 := hid (HB1.out.trans (Mod.of_below hb))
  clear hb HX1 HZ1 HS1 HB1 HRr
  have x0 := HX2.out.cell (k := 0) rfl
  have x2 := HX2.out.cell (k := 2) rfl
  go_wp2_with fail
  refine (rpmust_ok _ _).mono ?_
  rintro e w' ⟨rfl, rfl⟩
  go_wp2_with fail
  refine (rpmust_ok _ _).mono ?_
  rintro e w' ⟨rfl, rfl⟩
  go_wp2_with fail
  refine (HT.out _ HS2.out).mono ?_
  rintro e w3 ⟨rfl, hb⟩
  have HX3 := hid (HX2.out.below hb HX2.out.lt)
  have HZ3 := hid (HZ2.out.below hb HZ2.out.lt)
  have HS3 := hid (HS2.out.below hb HS2.out.lt)
  have HB3 := hid (HB2.out.trans (Mod.of_below hb))
  clear hb HX2 HZ2 HS2 HB2 HT x0 x2
  go_wp2_with fail
  refine (rpmust_ok _ _).mono ?_
  rintro e w' ⟨rfl, rfl⟩
  clear d1 d2 d3 d4
  rcases hat with ⟨rfl, rfl⟩ | ⟨rfl, rfl⟩ | ⟨rfl, rfl⟩ | rfl
  · go_wp2_with fail
    refine wp_loop_rounds 3 ?_
    rw [rounds_succ]
    have y0 := HS3.out.cell (k := 0) rfl
    have z0 := HS3.out.frozen 0
    go_upto_region 10 with fail
    clear y0 z0
    have HS9 := hid (HS3.out.set 0 (.int .i64 off))
    have HX9 := hid (HX3.out.other (a := ⟨sB, 0, none⟩) (.int .i64 off) (by dsimp only; omega))
    have HZ9 := hid (HZ3.out.other (a := ⟨sB, 0, none⟩) (.int .i64 off) (by dsimp only; omega))
    have HB9 := hid (HB3.out.set (a := ⟨sB, 0, none⟩) (.inl ⟨Nat.le_refl _, Nat.lt_succ_self _⟩) (.int .i64 off))
    clear HS3 HX3 HZ3 HB3
    generalize w3.setCell ⟨sB, 0, none⟩ (.int .i64 off) = w9 at *
    have x0 := HX9.out.cell (k := 0) rfl
    have x1 := HX9.out.cell (k := 1) rfl
    have y0 := HZ9.out.cell (k := 0) rfl
    have z0 := HZ9.out.frozen 0
    have y1 := HZ9.out.cell (k := 1) rfl
    have z1 := HZ9.out.frozen 1
    have y2 := HZ9.out.cell (k := 2) rfl
    have z2 := HZ9.out.frozen 2
    go_wp2
    have HZs := hid (((HZ9.out.set 0 (.int .i64 lit)).set 1 (.int .i64 len)).set 2 (.int .i64 off))
    have HSs := hid (((HS9.out.other (a := ⟨w.heap.size + 1, 0, none⟩) (.int .i64 lit) (by dsimp only; omega)).other (a := ⟨w.heap.size + 1, 1, none⟩) (.int .i64 len) (by dsimp only; omega)).other (a := ⟨w.heap.size + 1, 2, none⟩) (.int .i64 off) (by dsimp only; omega))
    have HBs := hid (((HB9.out.set (a := ⟨w.heap.size + 1, 0, none⟩) (.inr (by dsimp only; omega)) (.int .i64 lit)).set (a := ⟨w.heap.size + 1, 1, none⟩) (.inr (by dsimp only; omega)) (.int .i64 len)).set (a := ⟨w.heap.size + 1, 2, none⟩) (.inr (by dsimp only; omega)) (.int .i64 off))
    clear x0 x1 y0 y1 y2 z0 z1 z2
    have p0 := HZs.out.cell (k := 0) rfl
    have p1 := HZs.out.cell (k := 1) rfl
    have p2 := HZs.out.cell (k := 2) rfl
    refine bodyPost_ret (v := .agg #[.int .i64 lit, .int .i64 len, .int .i64 off]) (by simp [results, Tryz.results81, go_sem, p0, p1, p2]) rfl ?_
    exact ⟨rfl, ⟨_, _, _, rfl, HSs.out⟩, HBs.out⟩
  · go_wp2_with fail
    refine wp_loop_rounds 3 ?_
    rw [rounds_succ]
    go_upto_region 8 with fail
    have HBd := hid (show Below w3.heap.size w3 w3.drew from (Below.refl _ _).drew)
    have HXd3 := hid (HX3.out.below HBd.out HX3.out.lt)
    have HZd3 := hid (HZ3.out.below HBd.out HZ3.out.lt)
    have HSd3 := hid (HS3.out.below HBd.out HS3.out.lt)
    have HBd3 := hid (HB3.out.trans (Mod.of_below HBd.out))
    clear HBd HX3 HZ3 HS3 HB3
    refine wp_region_noPanic ?_
    refine wp_region_held_drew (S := fun W' => W'.cell? ⟨sB, 0, none⟩ = some (.int .i64 r0)) (by kernel_rfl) (HSd3.out.cell (k := 0) rfl) (fun hHeld => ?_)
    generalize w3.drew = wd3 at *
    refine wpAnyH_take (i := 0) (v := .pointer (some ⟨sB, 0, none⟩)) (by simp only [List.getElem?_toArray, List.getElem?_cons_zero]; rfl) (by kernel_rfl) (by kernel_rfl) (by kernel_rfl) (fun _ _ _ h => h) (Or.inl ⟨by rfl, fun W hSw => ?_⟩) (by assumption) ?_
    · clear hSw
      go_simp
    simp only [Act.put, List.setIfInBounds_toArray, List.set_cons_zero, List.set_cons_succ]
    refine wpAnyH_take (i := 1) (v := .int .i64 1) (by simp only [List.getElem?_toArray, List.getElem?_cons_zero, List.getElem?_cons_succ]; rfl) (by kernel_rfl) (by kernel_rfl) (by kernel_rfl) (fun _ _ _ h => h) (Or.inl ⟨by rfl, fun W hSw => ?_⟩) (by assumption) ?_
    · clear hSw
      (go_simp; all_goals (first | rfl | decide))
    simp only [Act.put, List.setIfInBounds_toArray, List.set_cons_zero, List.set_cons_succ]
    refine wpAnyH_take (i := 2) (v := .pointer (some ⟨sB, 0, none⟩)) (by simp only [List.getElem?_toArray, List.getElem?_cons_zero, List.getElem?_cons_succ]; rfl) (by kernel_rfl) (by kernel_rfl) (by kernel_rfl) (fun _ _ _ h => h) (Or.inl ⟨by rfl, fun W hSw => ?_⟩) (by assumption) ?_
    · clear hSw
      go_simp
    simp only [Act.put, List.setIfInBounds_toArray, List.set_cons_zero, List.set_cons_succ]
    refine wpAnyH_take (i := 3) (v := .int .i64 1) (by simp only [List.getElem?_toArray, List.getElem?_cons_zero, List.getElem?_cons_succ]; rfl) (by kernel_rfl) (by kernel_rfl) (by kernel_rfl) (fun _ _ _ h => h) (Or.inl ⟨by rfl, fun W hSw => ?_⟩) (by assumption) ?_
    · clear hSw
      (go_simp; all_goals (first | rfl | decide))
    simp only [Act.put, List.setIfInBounds_toArray, List.set_cons_zero, List.set_cons_succ]
    refine wpAnyH_take (i := 4) (v := .int .i64 0) (by simp only [List.getElem?_toArray, List.getElem?_cons_zero, List.getElem?_cons_succ]; rfl) (by kernel_rfl) (by kernel_rfl) (by kernel_rfl) (fun _ _ _ h => h) (Or.inl ⟨by rfl, fun W hSw => ?_⟩) (by assumption) ?_
    · clear hSw
      (go_simp; all_goals (first | rfl | decide))
    simp only [Act.put, List.setIfInBounds_toArray, List.set_cons_zero, List.set_cons_succ]
    refine wpAnyH_take (i := 5) (v := .pointer (some ⟨sB, 0, none⟩)) (by simp only [List.getElem?_toArray, List.getElem?_cons_zero, List.getElem?_cons_succ]; rfl) (by kernel_rfl) (by kernel_rfl) (by kernel_rfl) (fun _ _ _ h => h) (Or.inl ⟨by rfl, fun W hSw => ?_⟩) (by assumption) ?_
    · clear hSw
      go_simp
    simp only [Act.put, List.setIfInBounds_toArray, List.set_cons_zero, List.set_cons_succ]
    refine wpAnyH_take (i := 6) (v := .pointer (some ⟨sB, 0, none⟩)) (by simp only [List.getElem?_toArray, List.getElem?_cons_zero, List.getElem?_cons_succ]; rfl) (by kernel_rfl) (by kernel_rfl) (by kernel_rfl) (fun _ _ _ h => h) (Or.inl ⟨by rfl, fun W hSw => ?_⟩) (by assumption) ?_
    · clear hSw
      go_simp
    simp only [Act.put, List.setIfInBounds_toArray, List.set_cons_zero, List.set_cons_succ]
    refine wpAnyH_take (i := 7) (v := .pointer (some ⟨sB, 0, none⟩)) (by simp only [List.getElem?_toArray, List.getElem?_cons_zero, List.getElem?_cons_succ]; rfl) (by kernel_rfl) (by kernel_rfl) (by kernel_rfl) (fun _ _ _ h => h) (Or.inl ⟨by rfl, fun W hSw => ?_⟩) (by assumption) ?_
    · clear hSw
      go_simp
    simp only [Act.put, List.setIfInBounds_toArray, List.set_cons_zero, List.set_cons_succ]
    refine wpAnyH_take (i := 8) (v := .int .i64 r0) (by simp only [List.getElem?_toArray, List.getElem?_cons_zero, List.getElem?_cons_succ]; rfl) (by kernel_rfl) (by kernel_rfl) (by kernel_rfl) (fun _ _ _ h => h) (Or.inl ⟨by rfl, fun W hSw => ?_⟩) (by assumption) ?_
    · have hcw := hSw
      go_simp
    simp only [Act.put, List.setIfInBounds_toArray, List.set_cons_zero, List.set_cons_succ]
    refine wpAnyH_take (i := 9) (v := .pointer (some ⟨sB, 0, none⟩)) (by simp only [List.getElem?_toArray, List.getElem?_cons_zero, List.getElem?_cons_succ]; rfl) (by kernel_rfl) (by kernel_rfl) (by kernel_rfl) (fun _ _ _ h => h) (Or.inl ⟨by rfl, fun W hSw => ?_⟩) (by assumption) ?_
    · clear hSw
      go_simp
    simp only [Act.put, List.setIfInBounds_toArray, List.set_cons_zero, List.set_cons_succ]
    refine wpAnyH_take (i := 10) (v := .pointer (some ⟨sB, 0, none⟩)) (by simp only [List.getElem?_toArray, List.getElem?_cons_zero, List.getElem?_cons_succ]; rfl) (by kernel_rfl) (by kernel_rfl) (by kernel_rfl) (fun _ _ _ h => h) (Or.inl ⟨by rfl, fun W hSw => ?_⟩) (by assumption) ?_
    · clear hSw
      go_simp
    simp only [Act.put, List.setIfInBounds_toArray, List.set_cons_zero, List.set_cons_succ]
    refine wpAnyH_take (i := 11) (v := .pointer (some ⟨sB, 1, none⟩)) (by simp only [List.getElem?_toArray, List.getElem?_cons_zero, List.getElem?_cons_succ]; rfl) (by kernel_rfl) (by kernel_rfl) (by kernel_rfl) (fun _ _ _ h => h) (Or.inl ⟨by rfl, fun W hSw => ?_⟩) (by assumption) ?_
    · clear hSw
      go_simp
    simp only [Act.put, List.setIfInBounds_toArray, List.set_cons_zero, List.set_cons_succ]
    have y0 := HSd3.out.cell (k := 1) rfl
    have z0 := HSd3.out.frozen 1
    have HS3s := hid (HSd3.out.set 1 (.int .i64 r0))
    have HX3s := hid (HXd3.out.other (a := ⟨sB, 1, none⟩) (.int .i64 r0) (by dsimp only; omega))
    have HZ3s := hid (HZd3.out.other (a := ⟨sB, 1, none⟩) (.int .i64 r0) (by dsimp only; omega))
    have HB3s := hid (HBd3.out.set (a := ⟨sB, 1, none⟩) (.inl ⟨Nat.le_refl _, Nat.lt_succ_self _⟩) (.int .i64 r0))
    refine wpAnyH_ready (rs := [12]) (by kernel_rfl) (by simp) ?_
    refine AllReadyH.cons (by simp only [List.getElem?_toArray, List.getElem?_cons_zero, List.getElem?_cons_succ]; rfl) (fun K hK => ?_) AllReadyH.nil
    rw [if_pos (by rfl)]
    go_simp
    refine hK.out _ _ (HS3s.out.cell (k := 0) rfl) (fun _ => ?_)
    clear hK K
    refine wpAnyH_done (by kernel_rfl) ?_ _
    refine NoPanic.normal ?_
    clear y0 z0 HXd3 HZd3 HSd3 HBd3 hHeld
    generalize wd3.setCell ⟨sB, 1, none⟩ (.int .i64 r0) = wn3 at *
    go_wp2_with fail
    rw [rounds_succ]
    have y0 := HS3s.out.cell (k := 0) rfl
    have z0 := HS3s.out.frozen 0
    go_upto_region 10 with fail
    clear y0 z0
    have HS9 := hid (HS3s.out.set 0 (.int .i64 off))
    have HX9 := hid (HX3s.out.other (a := ⟨sB, 0, none⟩) (.int .i64 off) (by dsimp only; omega))
    have HZ9 := hid (HZ3s.out.other (a := ⟨sB, 0, none⟩) (.int .i64 off) (by dsimp only; omega))
    have HB9 := hid (HB3s.out.set (a := ⟨sB, 0, none⟩) (.inl ⟨Nat.le_refl _, Nat.lt_succ_self _⟩) (.int .i64 off))
    clear HS3s HX3s HZ3s HB3s
    generalize wn3.setCell ⟨sB, 0, none⟩ (.int .i64 off) = w9 at *
    have x0 := HX9.out.cell (k := 0) rfl
    have x1 := HX9.out.cell (k := 1) rfl
    have y0 := HZ9.out.cell (k := 0) rfl
    have z0 := HZ9.out.frozen 0
    have y1 := HZ9.out.cell (k := 1) rfl
    have z1 := HZ9.out.frozen 1
    have y2 := HZ9.out.cell (k := 2) rfl
    have z2 := HZ9.out.frozen 2
    go_wp2
    have HZs := hid (((HZ9.out.set 0 (.int .i64 lit)).set 1 (.int .i64 len)).set 2 (.int .i64 off))
    have HSs := hid (((HS9.out.other (a := ⟨w.heap.size + 1, 0, none⟩) (.int .i64 lit) (by dsimp only; omega)).other (a := ⟨w.heap.size + 1, 1, none⟩) (.int .i64 len) (by dsimp only; omega)).other (a := ⟨w.heap.size + 1, 2, none⟩) (.int .i64 off) (by dsimp only; omega))
    have HBs := hid (((HB9.out.set (a := ⟨w.heap.size + 1, 0, none⟩) (.inr (by dsimp only; omega)) (.int .i64 lit)).set (a := ⟨w.heap.size + 1, 1, none⟩) (.inr (by dsimp only; omega)) (.int .i64 len)).set (a := ⟨w.heap.size + 1, 2, none⟩) (.inr (by dsimp only; omega)) (.int .i64 off))
    clear x0 x1 y0 y1 y2 z0 z1 z2
    have p0 := HZs.out.cell (k := 0) rfl
    have p1 := HZs.out.cell (k := 1) rfl
    have p2 := HZs.out.cell (k := 2) rfl
    refine bodyPost_ret (v := .agg #[.int .i64 lit, .int .i64 len, .int .i64 off]) (by simp [results, Tryz.results81, go_sem, p0, p1, p2]) rfl ?_
    exact ⟨rfl, ⟨_, _, _, rfl, HSs.out⟩, HBs.out⟩
  · go_wp2_with fail
    refine wp_loop_rounds 3 ?_
    rw [rounds_succ]
    go_upto_region 8 with fail
    have HBd := hid (show Below w3.heap.size w3 w3.drew from (Below.refl _ _).drew)
    have HXd3 := hid (HX3.out.below HBd.out HX3.out.lt)
    have HZd3 := hid (HZ3.out.below HBd.out HZ3.out.lt)
    have HSd3 := hid (HS3.out.below HBd.out HS3.out.lt)
    have HBd3 := hid (HB3.out.trans (Mod.of_below HBd.out))
    clear HBd HX3 HZ3 HS3 HB3
    refine wp_region_noPanic ?_
    refine wp_region_held_drew (S := fun W' => W'.cell? ⟨sB, 1, none⟩ = some (.int .i64 r1)) (by kernel_rfl) (HSd3.out.cell (k := 1) rfl) (fun hHeld => ?_)
    generalize w3.drew = wd3 at *
    refine wpAnyH_take (i := 0) (v := .pointer (some ⟨sB, 0, none⟩)) (by simp only [List.getElem?_toArray, List.getElem?_cons_zero]; rfl) (by kernel_rfl) (by kernel_rfl) (by kernel_rfl) (fun _ _ _ h => h) (Or.inl ⟨by rfl, fun W hSw => ?_⟩) (by assumption) ?_
    · clear hSw
      go_simp
    simp only [Act.put, List.setIfInBounds_toArray, List.set_cons_zero, List.set_cons_succ]
    refine wpAnyH_take (i := 1) (v := .int .i64 2) (by simp only [List.getElem?_toArray, List.getElem?_cons_zero, List.getElem?_cons_succ]; rfl) (by kernel_rfl) (by kernel_rfl) (by kernel_rfl) (fun _ _ _ h => h) (Or.inl ⟨by rfl, fun W hSw => ?_⟩) (by assumption) ?_
    · clear hSw
      (go_simp; all_goals (first | rfl | decide))
    simp only [Act.put, List.setIfInBounds_toArray, List.set_cons_zero, List.set_cons_succ]
    refine wpAnyH_take (i := 2) (v := .pointer (some ⟨sB, 0, none⟩)) (by simp only [List.getElem?_toArray, List.getElem?_cons_zero, List.getElem?_cons_succ]; rfl) (by kernel_rfl) (by kernel_rfl) (by kernel_rfl) (fun _ _ _ h => h) (Or.inl ⟨by rfl, fun W hSw => ?_⟩) (by assumption) ?_
    · clear hSw
      go_simp
    simp only [Act.put, List.setIfInBounds_toArray, List.set_cons_zero, List.set_cons_succ]
    refine wpAnyH_take (i := 3) (v := .int .i64 2) (by simp only [List.getElem?_toArray, List.getElem?_cons_zero, List.getElem?_cons_succ]; rfl) (by kernel_rfl) (by kernel_rfl) (by kernel_rfl) (fun _ _ _ h => h) (Or.inl ⟨by rfl, fun W hSw => ?_⟩) (by assumption) ?_
    · clear hSw
      (go_simp; all_goals (first | rfl | decide))
    simp only [Act.put, List.setIfInBounds_toArray, List.set_cons_zero, List.set_cons_succ]
    refine wpAnyH_take (i := 4) (v := .int .i64 1) (by simp only [List.getElem?_toArray, List.getElem?_cons_zero, List.getElem?_cons_succ]; rfl) (by kernel_rfl) (by kernel_rfl) (by kernel_rfl) (fun _ _ _ h => h) (Or.inl ⟨by rfl, fun W hSw => ?_⟩) (by assumption) ?_
    · clear hSw
      (go_simp; all_goals (first | rfl | decide))
    simp only [Act.put, List.setIfInBounds_toArray, List.set_cons_zero, List.set_cons_succ]
    refine wpAnyH_take (i := 5) (v := .pointer (some ⟨sB, 0, none⟩)) (by simp only [List.getElem?_toArray, List.getElem?_cons_zero, List.getElem?_cons_succ]; rfl) (by kernel_rfl) (by kernel_rfl) (by kernel_rfl) (fun _ _ _ h => h) (Or.inl ⟨by rfl, fun W hSw => ?_⟩) (by assumption) ?_
    · clear hSw
      go_simp
    simp only [Act.put, List.setIfInBounds_toArray, List.set_cons_zero, List.set_cons_succ]
    refine wpAnyH_take (i := 6) (v := .pointer (some ⟨sB, 0, none⟩)) (by simp only [List.getElem?_toArray, List.getElem?_cons_zero, List.getElem?_cons_succ]; rfl) (by kernel_rfl) (by kernel_rfl) (by kernel_rfl) (fun _ _ _ h => h) (Or.inl ⟨by rfl, fun W hSw => ?_⟩) (by assumption) ?_
    · clear hSw
      go_simp
    simp only [Act.put, List.setIfInBounds_toArray, List.set_cons_zero, List.set_cons_succ]
    refine wpAnyH_take (i := 7) (v := .pointer (some ⟨sB, 1, none⟩)) (by simp only [List.getElem?_toArray, List.getElem?_cons_zero, List.getElem?_cons_succ]; rfl) (by kernel_rfl) (by kernel_rfl) (by kernel_rfl) (fun _ _ _ h => h) (Or.inl ⟨by rfl, fun W hSw => ?_⟩) (by assumption) ?_
    · clear hSw
      go_simp
    simp only [Act.put, List.setIfInBounds_toArray, List.set_cons_zero, List.set_cons_succ]
    refine wpAnyH_take (i := 8) (v := .int .i64 r1) (by simp only [List.getElem?_toArray, List.getElem?_cons_zero, List.getElem?_cons_succ]; rfl) (by kernel_rfl) (by kernel_rfl) (by kernel_rfl) (fun _ _ _ h => h) (Or.inl ⟨by rfl, fun W hSw => ?_⟩) (by assumption) ?_
    · have hcw := hSw
      go_simp
    simp only [Act.put, List.setIfInBounds_toArray, List.set_cons_zero, List.set_cons_succ]
    refine wpAnyH_take (i := 9) (v := .pointer (some ⟨sB, 0, none⟩)) (by simp only [List.getElem?_toArray, List.getElem?_cons_zero, List.getElem?_cons_succ]; rfl) (by kernel_rfl) (by kernel_rfl) (by kernel_rfl) (fun _ _ _ h => h) (Or.inl ⟨by rfl, fun W hSw => ?_⟩) (by assumption) ?_
    · clear hSw
      go_simp
    simp only [Act.put, List.setIfInBounds_toArray, List.set_cons_zero, List.set_cons_succ]
    refine wpAnyH_take (i := 10) (v := .pointer (some ⟨sB, 0, none⟩)) (by simp only [List.getElem?_toArray, List.getElem?_cons_zero, List.getElem?_cons_succ]; rfl) (by kernel_rfl) (by kernel_rfl) (by kernel_rfl) (fun _ _ _ h => h) (Or.inl ⟨by rfl, fun W hSw => ?_⟩) (by assumption) ?_
    · clear hSw
      go_simp
    simp only [Act.put, List.setIfInBounds_toArray, List.set_cons_zero, List.set_cons_succ]
    refine wpAnyH_take (i := 11) (v := .pointer (some ⟨sB, 2, none⟩)) (by simp only [List.getElem?_toArray, List.getElem?_cons_zero, List.getElem?_cons_succ]; rfl) (by kernel_rfl) (by kernel_rfl) (by kernel_rfl) (fun _ _ _ h => h) (Or.inl ⟨by rfl, fun W hSw => ?_⟩) (by assumption) ?_
    · clear hSw
      go_simp
    simp only [Act.put, List.setIfInBounds_toArray, List.set_cons_zero, List.set_cons_succ]
    have y0 := HSd3.out.cell (k := 2) rfl
    have z0 := HSd3.out.frozen 2
    have HS3s := hid (HSd3.out.set 2 (.int .i64 r1))
    have HX3s := hid (HXd3.out.other (a := ⟨sB, 2, none⟩) (.int .i64 r1) (by dsimp only; omega))
    have HZ3s := hid (HZd3.out.other (a := ⟨sB, 2, none⟩) (.int .i64 r1) (by dsimp only; omega))
    have HB3s := hid (HBd3.out.set (a := ⟨sB, 2, none⟩) (.inl ⟨Nat.le_refl _, Nat.lt_succ_self _⟩) (.int .i64 r1))
    refine wpAnyH_ready (rs := [12]) (by kernel_rfl) (by simp) ?_
    refine AllReadyH.cons (by simp only [List.getElem?_toArray, List.getElem?_cons_zero, List.getElem?_cons_succ]; rfl) (fun K hK => ?_) AllReadyH.nil
    rw [if_pos (by rfl)]
    go_simp
    refine hK.out _ _ (HS3s.out.cell (k := 1) rfl) (fun _ => ?_)
    clear hK K
    refine wpAnyH_done (by kernel_rfl) ?_ _
    refine NoPanic.normal ?_
    clear y0 z0 HXd3 HZd3 HSd3 HBd3 hHeld
    generalize wd3.setCell ⟨sB, 2, none⟩ (.int .i64 r1) = wn3 at *
    go_wp2_with fail
    rw [rounds_succ]
    go_upto_region 8 with fail
    have HBd := hid (show Below wn3.heap.size wn3 wn3.drew from (Below.refl _ _).drew)
    have HXd3s := hid (HX3s.out.below HBd.out HX3s.out.lt)
    have HZd3s := hid (HZ3s.out.below HBd.out HZ3s.out.lt)
    have HSd3s := hid (HS3s.out.below HBd.out HS3s.out.lt)
    have HBd3s := hid (HB3s.out.trans (Mod.of_below HBd.out))
    clear HBd HX3s HZ3s HS3s HB3s
    refine wp_region_noPanic ?_
    refine wp_region_held_drew (S := fun W' => W'.cell? ⟨sB, 0, none⟩ = some (.int .i64 r0)) (by kernel_rfl) (HSd3s.out.cell (k := 0) rfl) (fun hHeld => ?_)
    generalize wn3.drew = wd3s at *
    refine wpAnyH_take (i := 0) (v := .pointer (some ⟨sB, 0, none⟩)) (by simp only [List.getElem?_toArray, List.getElem?_cons_zero]; rfl) (by kernel_rfl) (by kernel_rfl) (by kernel_rfl) (fun _ _ _ h => h) (Or.inl ⟨by rfl, fun W hSw => ?_⟩) (by assumption) ?_
    · clear hSw
      go_simp
    simp only [Act.put, List.setIfInBounds_toArray, List.set_cons_zero, List.set_cons_succ]
    refine wpAnyH_take (i := 1) (v := .int .i64 1) (by simp only [List.getElem?_toArray, List.getElem?_cons_zero, List.getElem?_cons_succ]; rfl) (by kernel_rfl) (by kernel_rfl) (by kernel_rfl) (fun _ _ _ h => h) (Or.inl ⟨by rfl, fun W hSw => ?_⟩) (by assumption) ?_
    · clear hSw
      (go_simp; all_goals (first | rfl | decide))
    simp only [Act.put, List.setIfInBounds_toArray, List.set_cons_zero, List.set_cons_succ]
    refine wpAnyH_take (i := 2) (v := .pointer (some ⟨sB, 0, none⟩)) (by simp only [List.getElem?_toArray, List.getElem?_cons_zero, List.getElem?_cons_succ]; rfl) (by kernel_rfl) (by kernel_rfl) (by kernel_rfl) (fun _ _ _ h => h) (Or.inl ⟨by rfl, fun W hSw => ?_⟩) (by assumption) ?_
    · clear hSw
      go_simp
    simp only [Act.put, List.setIfInBounds_toArray, List.set_cons_zero, List.set_cons_succ]
    refine wpAnyH_take (i := 3) (v := .int .i64 1) (by simp only [List.getElem?_toArray, List.getElem?_cons_zero, List.getElem?_cons_succ]; rfl) (by kernel_rfl) (by kernel_rfl) (by kernel_rfl) (fun _ _ _ h => h) (Or.inl ⟨by rfl, fun W hSw => ?_⟩) (by assumption) ?_
    · clear hSw
      (go_simp; all_goals (first | rfl | decide))
    simp only [Act.put, List.setIfInBounds_toArray, List.set_cons_zero, List.set_cons_succ]
    refine wpAnyH_take (i := 4) (v := .int .i64 0) (by simp only [List.getElem?_toArray, List.getElem?_cons_zero, List.getElem?_cons_succ]; rfl) (by kernel_rfl) (by kernel_rfl) (by kernel_rfl) (fun _ _ _ h => h) (Or.inl ⟨by rfl, fun W hSw => ?_⟩) (by assumption) ?_
    · clear hSw
      (go_simp; all_goals (first | rfl | decide))
    simp only [Act.put, List.setIfInBounds_toArray, List.set_cons_zero, List.set_cons_succ]
    refine wpAnyH_take (i := 5) (v := .pointer (some ⟨sB, 0, none⟩)) (by simp only [List.getElem?_toArray, List.getElem?_cons_zero, List.getElem?_cons_succ]; rfl) (by kernel_rfl) (by kernel_rfl) (by kernel_rfl) (fun _ _ _ h => h) (Or.inl ⟨by rfl, fun W hSw => ?_⟩) (by assumption) ?_
    · clear hSw
      go_simp
    simp only [Act.put, List.setIfInBounds_toArray, List.set_cons_zero, List.set_cons_succ]
    refine wpAnyH_take (i := 6) (v := .pointer (some ⟨sB, 0, none⟩)) (by simp only [List.getElem?_toArray, List.getElem?_cons_zero, List.getElem?_cons_succ]; rfl) (by kernel_rfl) (by kernel_rfl) (by kernel_rfl) (fun _ _ _ h => h) (Or.inl ⟨by rfl, fun W hSw => ?_⟩) (by assumption) ?_
    · clear hSw
      go_simp
    simp only [Act.put, List.setIfInBounds_toArray, List.set_cons_zero, List.set_cons_succ]
    refine wpAnyH_take (i := 7) (v := .pointer (some ⟨sB, 0, none⟩)) (by simp only [List.getElem?_toArray, List.getElem?_cons_zero, List.getElem?_cons_succ]; rfl) (by kernel_rfl) (by kernel_rfl) (by kernel_rfl) (fun _ _ _ h => h) (Or.inl ⟨by rfl, fun W hSw => ?_⟩) (by assumption) ?_
    · clear hSw
      go_simp
    simp only [Act.put, List.setIfInBounds_toArray, List.set_cons_zero, List.set_cons_succ]
    refine wpAnyH_take (i := 8) (v := .int .i64 r0) (by simp only [List.getElem?_toArray, List.getElem?_cons_zero, List.getElem?_cons_succ]; rfl) (by kernel_rfl) (by kernel_rfl) (by kernel_rfl) (fun _ _ _ h => h) (Or.inl ⟨by rfl, fun W hSw => ?_⟩) (by assumption) ?_
    · have hcw := hSw
      go_simp
    simp only [Act.put, List.setIfInBounds_toArray, List.set_cons_zero, List.set_cons_succ]
    refine wpAnyH_take (i := 9) (v := .pointer (some ⟨sB, 0, none⟩)) (by simp only [List.getElem?_toArray, List.getElem?_cons_zero, List.getElem?_cons_succ]; rfl) (by kernel_rfl) (by kernel_rfl) (by kernel_rfl) (fun _ _ _ h => h) (Or.inl ⟨by rfl, fun W hSw => ?_⟩) (by assumption) ?_
    · clear hSw
      go_simp
    simp only [Act.put, List.setIfInBounds_toArray, List.set_cons_zero, List.set_cons_succ]
    refine wpAnyH_take (i := 10) (v := .pointer (some ⟨sB, 0, none⟩)) (by simp only [List.getElem?_toArray, List.getElem?_cons_zero, List.getElem?_cons_succ]; rfl) (by kernel_rfl) (by kernel_rfl) (by kernel_rfl) (fun _ _ _ h => h) (Or.inl ⟨by rfl, fun W hSw => ?_⟩) (by assumption) ?_
    · clear hSw
      go_simp
    simp only [Act.put, List.setIfInBounds_toArray, List.set_cons_zero, List.set_cons_succ]
    refine wpAnyH_take (i := 11) (v := .pointer (some ⟨sB, 1, none⟩)) (by simp only [List.getElem?_toArray, List.getElem?_cons_zero, List.getElem?_cons_succ]; rfl) (by kernel_rfl) (by kernel_rfl) (by kernel_rfl) (fun _ _ _ h => h) (Or.inl ⟨by rfl, fun W hSw => ?_⟩) (by assumption) ?_
    · clear hSw
      go_simp
    simp only [Act.put, List.setIfInBounds_toArray, List.set_cons_zero, List.set_cons_succ]
    have y0 := HSd3s.out.cell (k := 1) rfl
    have z0 := HSd3s.out.frozen 1
    have HS3ss := hid (HSd3s.out.set 1 (.int .i64 r0))
    have HX3ss := hid (HXd3s.out.other (a := ⟨sB, 1, none⟩) (.int .i64 r0) (by dsimp only; omega))
    have HZ3ss := hid (HZd3s.out.other (a := ⟨sB, 1, none⟩) (.int .i64 r0) (by dsimp only; omega))
    have HB3ss := hid (HBd3s.out.set (a := ⟨sB, 1, none⟩) (.inl ⟨Nat.le_refl _, Nat.lt_succ_self _⟩) (.int .i64 r0))
    refine wpAnyH_ready (rs := [12]) (by kernel_rfl) (by simp) ?_
    refine AllReadyH.cons (by simp only [List.getElem?_toArray, List.getElem?_cons_zero, List.getElem?_cons_succ]; rfl) (fun K hK => ?_) AllReadyH.nil
    rw [if_pos (by rfl)]
    go_simp
    refine hK.out _ _ (HS3ss.out.cell (k := 0) rfl) (fun _ => ?_)
    clear hK K
    refine wpAnyH_done (by kernel_rfl) ?_ _
    refine NoPanic.normal ?_
    clear y0 z0 HXd3s HZd3s HSd3s HBd3s hHeld
    generalize wd3s.setCell ⟨sB, 1, none⟩ (.int .i64 r0) = wn3s at *
    go_wp2_with fail
    rw [rounds_succ]
    have y0 := HS3ss.out.cell (k := 0) rfl
    have z0 := HS3ss.out.frozen 0
    go_upto_region 10 with fail
    clear y0 z0
    have HS9 := hid (HS3ss.out.set 0 (.int .i64 off))
    have HX9 := hid (HX3ss.out.other (a := ⟨sB, 0, none⟩) (.int .i64 off) (by dsimp only; omega))
    have HZ9 := hid (HZ3ss.out.other (a := ⟨sB, 0, none⟩) (.int .i64 off) (by dsimp only; omega))
    have HB9 := hid (HB3ss.out.set (a := ⟨sB, 0, none⟩) (.inl ⟨Nat.le_refl _, Nat.lt_succ_self _⟩) (.int .i64 off))
    clear HS3ss HX3ss HZ3ss HB3ss
    generalize wn3s.setCell ⟨sB, 0, none⟩ (.int .i64 off) = w9 at *
    have x0 := HX9.out.cell (k := 0) rfl
    have x1 := HX9.out.cell (k := 1) rfl
    have y0 := HZ9.out.cell (k := 0) rfl
    have z0 := HZ9.out.frozen 0
    have y1 := HZ9.out.cell (k := 1) rfl
    have z1 := HZ9.out.frozen 1
    have y2 := HZ9.out.cell (k := 2) rfl
    have z2 := HZ9.out.frozen 2
    go_wp2
    have HZs := hid (((HZ9.out.set 0 (.int .i64 lit)).set 1 (.int .i64 len)).set 2 (.int .i64 off))
    have HSs := hid (((HS9.out.other (a := ⟨w.heap.size + 1, 0, none⟩) (.int .i64 lit) (by dsimp only; omega)).other (a := ⟨w.heap.size + 1, 1, none⟩) (.int .i64 len) (by dsimp only; omega)).other (a := ⟨w.heap.size + 1, 2, none⟩) (.int .i64 off) (by dsimp only; omega))
    have HBs := hid (((HB9.out.set (a := ⟨w.heap.size + 1, 0, none⟩) (.inr (by dsimp only; omega)) (.int .i64 lit)).set (a := ⟨w.heap.size + 1, 1, none⟩) (.inr (by dsimp only; omega)) (.int .i64 len)).set (a := ⟨w.heap.size + 1, 2, none⟩) (.inr (by dsimp only; omega)) (.int .i64 off))
    clear x0 x1 y0 y1 y2 z0 z1 z2
    have p0 := HZs.out.cell (k := 0) rfl
    have p1 := HZs.out.cell (k := 1) rfl
    have p2 := HZs.out.cell (k := 2) rfl
    refine bodyPost_ret (v := .agg #[.int .i64 lit, .int .i64 len, .int .i64 off]) (by simp [results, Tryz.results81, go_sem, p0, p1, p2]) rfl ?_
    exact ⟨rfl, ⟨_, _, _, rfl, HSs.out⟩, HBs.out⟩
  · go_wp2_with fail
    refine wp_loop_rounds 3 ?_
    rw [rounds_succ]
    go_upto_region 8 with fail
    have HBd := hid (show Below w3.heap.size w3 w3.drew from (Below.refl _ _).drew)
    have HXd3 := hid (HX3.out.below HBd.out HX3.out.lt)
    have HZd3 := hid (HZ3.out.below HBd.out HZ3.out.lt)
    have HSd3 := hid (HS3.out.below HBd.out HS3.out.lt)
    have HBd3 := hid (HB3.out.trans (Mod.of_below HBd.out))
    clear HBd HX3 HZ3 HS3 HB3
    refine wp_region_noPanic ?_
    refine wp_region_held_drew (S := fun W' => W'.cell? ⟨sB, 1, none⟩ = some (.int .i64 r1)) (by kernel_rfl) (HSd3.out.cell (k := 1) rfl) (fun hHeld => ?_)
    generalize w3.drew = wd3 at *
    refine wpAnyH_take (i := 0) (v := .pointer (some ⟨sB, 0, none⟩)) (by simp only [List.getElem?_toArray, List.getElem?_cons_zero]; rfl) (by kernel_rfl) (by kernel_rfl) (by kernel_rfl) (fun _ _ _ h => h) (Or.inl ⟨by rfl, fun W hSw => ?_⟩) (by assumption) ?_
    · clear hSw
      go_simp
    simp only [Act.put, List.setIfInBounds_toArray, List.set_cons_zero, List.set_cons_succ]
    refine wpAnyH_take (i := 1) (v := .int .i64 2) (by simp only [List.getElem?_toArray, List.getElem?_cons_zero, List.getElem?_cons_succ]; rfl) (by kernel_rfl) (by kernel_rfl) (by kernel_rfl) (fun _ _ _ h => h) (Or.inl ⟨by rfl, fun W hSw => ?_⟩) (by assumption) ?_
    · clear hSw
      (go_simp; all_goals (first | rfl | decide))
    simp only [Act.put, List.setIfInBounds_toArray, List.set_cons_zero, List.set_cons_succ]
    refine wpAnyH_take (i := 2) (v := .pointer (some ⟨sB, 0, none⟩)) (by simp only [List.getElem?_toArray, List.getElem?_cons_zero, List.getElem?_cons_succ]; rfl) (by kernel_rfl) (by kernel_rfl) (by kernel_rfl) (fun _ _ _ h => h) (Or.inl ⟨by rfl, fun W hSw => ?_⟩) (by assumption) ?_
    · clear hSw
      go_simp
    simp only [Act.put, List.setIfInBounds_toArray, List.set_cons_zero, List.set_cons_succ]
    refine wpAnyH_take (i := 3) (v := .int .i64 2) (by simp only [List.getElem?_toArray, List.getElem?_cons_zero, List.getElem?_cons_succ]; rfl) (by kernel_rfl) (by kernel_rfl) (by kernel_rfl) (fun _ _ _ h => h) (Or.inl ⟨by rfl, fun W hSw => ?_⟩) (by assumption) ?_
    · clear hSw
      (go_simp; all_goals (first | rfl | decide))
    simp only [Act.put, List.setIfInBounds_toArray, List.set_cons_zero, List.set_cons_succ]
    refine wpAnyH_take (i := 4) (v := .int .i64 1) (by simp only [List.getElem?_toArray, List.getElem?_cons_zero, List.getElem?_cons_succ]; rfl) (by kernel_rfl) (by kernel_rfl) (by kernel_rfl) (fun _ _ _ h => h) (Or.inl ⟨by rfl, fun W hSw => ?_⟩) (by assumption) ?_
    · clear hSw
      (go_simp; all_goals (first | rfl | decide))
    simp only [Act.put, List.setIfInBounds_toArray, List.set_cons_zero, List.set_cons_succ]
    refine wpAnyH_take (i := 5) (v := .pointer (some ⟨sB, 0, none⟩)) (by simp only [List.getElem?_toArray, List.getElem?_cons_zero, List.getElem?_cons_succ]; rfl) (by kernel_rfl) (by kernel_rfl) (by kernel_rfl) (fun _ _ _ h => h) (Or.inl ⟨by rfl, fun W hSw => ?_⟩) (by assumption) ?_
    · clear hSw
      go_simp
    simp only [Act.put, List.setIfInBounds_toArray, List.set_cons_zero, List.set_cons_succ]
    refine wpAnyH_take (i := 6) (v := .pointer (some ⟨sB, 0, none⟩)) (by simp only [List.getElem?_toArray, List.getElem?_cons_zero, List.getElem?_cons_succ]; rfl) (by kernel_rfl) (by kernel_rfl) (by kernel_rfl) (fun _ _ _ h => h) (Or.inl ⟨by rfl, fun W hSw => ?_⟩) (by assumption) ?_
    · clear hSw
      go_simp
    simp only [Act.put, List.setIfInBounds_toArray, List.set_cons_zero, List.set_cons_succ]
    refine wpAnyH_take (i := 7) (v := .pointer (some ⟨sB, 1, none⟩)) (by simp only [List.getElem?_toArray, List.getElem?_cons_zero, List.getElem?_cons_succ]; rfl) (by kernel_rfl) (by kernel_rfl) (by kernel_rfl) (fun _ _ _ h => h) (Or.inl ⟨by rfl, fun W hSw => ?_⟩) (by assumption) ?_
    · clear hSw
      go_simp
    simp only [Act.put, List.setIfInBounds_toArray, List.set_cons_zero, List.set_cons_succ]
    refine wpAnyH_take (i := 8) (v := .int .i64 r1) (by simp only [List.getElem?_toArray, List.getElem?_cons_zero, List.getElem?_cons_succ]; rfl) (by kernel_rfl) (by kernel_rfl) (by kernel_rfl) (fun _ _ _ h => h) (Or.inl ⟨by rfl, fun W hSw => ?_⟩) (by assumption) ?_
    · have hcw := hSw
      go_simp
    simp only [Act.put, List.setIfInBounds_toArray, List.set_cons_zero, List.set_cons_succ]
    refine wpAnyH_take (i := 9) (v := .pointer (some ⟨sB, 0, none⟩)) (by simp only [List.getElem?_toArray, List.getElem?_cons_zero, List.getElem?_cons_succ]; rfl) (by kernel_rfl) (by kernel_rfl) (by kernel_rfl) (fun _ _ _ h => h) (Or.inl ⟨by rfl, fun W hSw => ?_⟩) (by assumption) ?_
    · clear hSw
      go_simp
    simp only [Act.put, List.setIfInBounds_toArray, List.set_cons_zero, List.set_cons_succ]
    refine wpAnyH_take (i := 10) (v := .pointer (some ⟨sB, 0, none⟩)) (by simp only [List.getElem?_toArray, List.getElem?_cons_zero, List.getElem?_cons_succ]; rfl) (by kernel_rfl) (by kernel_rfl) (by kernel_rfl) (fun _ _ _ h => h) (Or.inl ⟨by rfl, fun W hSw => ?_⟩) (by assumption) ?_
    · clear hSw
      go_simp
    simp only [Act.put, List.setIfInBounds_toArray, List.set_cons_zero, List.set_cons_succ]
    refine wpAnyH_take (i := 11) (v := .pointer (some ⟨sB, 2, none⟩)) (by simp only [List.getElem?_toArray, List.getElem?_cons_zero, List.getElem?_cons_succ]; rfl) (by kernel_rfl) (by kernel_rfl) (by kernel_rfl) (fun _ _ _ h => h) (Or.inl ⟨by rfl, fun W hSw => ?_⟩) (by assumption) ?_
    · clear hSw
      go_simp
    simp only [Act.put, List.setIfInBounds_toArray, List.set_cons_zero, List.set_cons_succ]
    have y0 := HSd3.out.cell (k := 2) rfl
    have z0 := HSd3.out.frozen 2
    have HS3s := hid (HSd3.out.set 2 (.int .i64 r1))
    have HX3s := hid (HXd3.out.other (a := ⟨sB, 2, none⟩) (.int .i64 r1) (by dsimp only; omega))
    have HZ3s := hid (HZd3.out.other (a := ⟨sB, 2, none⟩) (.int .i64 r1) (by dsimp only; omega))
    have HB3s := hid (HBd3.out.set (a := ⟨sB, 2, none⟩) (.inl ⟨Nat.le_refl _, Nat.lt_succ_self _⟩) (.int .i64 r1))
    refine wpAnyH_ready (rs := [12]) (by kernel_rfl) (by simp) ?_
    refine AllReadyH.cons (by simp only [List.getElem?_toArray, List.getElem?_cons_zero, List.getElem?_cons_succ]; rfl) (fun K hK => ?_) AllReadyH.nil
    rw [if_pos (by rfl)]
    go_simp
    refine hK.out _ _ (HS3s.out.cell (k := 1) rfl) (fun _ => ?_)
    clear hK K
    refine wpAnyH_done (by kernel_rfl) ?_ _
    refine NoPanic.normal ?_
    clear y0 z0 HXd3 HZd3 HSd3 HBd3 hHeld
    generalize wd3.setCell ⟨sB, 2, none⟩ (.int .i64 r1) = wn3 at *
    go_wp2_with fail
    rw [rounds_succ]
    go_upto_region 8 with fail
    have HBd := hid (show Below wn3.heap.size wn3 wn3.drew from (Below.refl _ _).drew)
    have HXd3s := hid (HX3s.out.below HBd.out HX3s.out.lt)
    have HZd3s := hid (HZ3s.out.below HBd.out HZ3s.out.lt)
    have HSd3s := hid (HS3s.out.below HBd.out HS3s.out.lt)
    have HBd3s := hid (HB3s.out.trans (Mod.of_below HBd.out))
    clear HBd HX3s HZ3s HS3s HB3s
    refine wp_region_noPanic ?_
    refine wp_region_held_drew (S := fun W' => W'.cell? ⟨sB, 0, none⟩ = some (.int .i64 r0)) (by kernel_rfl) (HSd3s.out.cell (k := 0) rfl) (fun hHeld => ?_)
    generalize wn3.drew = wd3s at *
    refine wpAnyH_take (i := 0) (v := .pointer (some ⟨sB, 0, none⟩)) (by simp only [List.getElem?_toArray, List.getElem?_cons_zero]; rfl) (by kernel_rfl) (by kernel_rfl) (by kernel_rfl) (fun _ _ _ h => h) (Or.inl ⟨by rfl, fun W hSw => ?_⟩) (by assumption) ?_
    · clear hSw
      go_simp
    simp only [Act.put, List.setIfInBounds_toArray, List.set_cons_zero, List.set_cons_succ]
    refine wpAnyH_take (i := 1) (v := .int .i64 1) (by simp only [List.getElem?_toArray, List.getElem?_cons_zero, List.getElem?_cons_succ]; rfl) (by kernel_rfl) (by kernel_rfl) (by kernel_rfl) (fun _ _ _ h => h) (Or.inl ⟨by rfl, fun W hSw => ?_⟩) (by assumption) ?_
    · clear hSw
      (go_simp; all_goals (first | rfl | decide))
    simp only [Act.put, List.setIfInBounds_toArray, List.set_cons_zero, List.set_cons_succ]
    refine wpAnyH_take (i := 2) (v := .pointer (some ⟨sB, 0, none⟩)) (by simp only [List.getElem?_toArray, List.getElem?_cons_zero, List.getElem?_cons_succ]; rfl) (by kernel_rfl) (by kernel_rfl) (by kernel_rfl) (fun _ _ _ h => h) (Or.inl ⟨by rfl, fun W hSw => ?_⟩) (by assumption) ?_
    · clear hSw
      go_simp
    simp only [Act.put, List.setIfInBounds_toArray, List.set_cons_zero, List.set_cons_succ]
    refine wpAnyH_take (i := 3) (v := .int .i64 1) (by simp only [List.getElem?_toArray, List.getElem?_cons_zero, List.getElem?_cons_succ]; rfl) (by kernel_rfl) (by kernel_rfl) (by kernel_rfl) (fun _ _ _ h => h) (Or.inl ⟨by rfl, fun W hSw => ?_⟩) (by assumption) ?_
    · clear hSw
      (go_simp; all_goals (first | rfl | decide))
    simp only [Act.put, List.setIfInBounds_toArray, List.set_cons_zero, List.set_cons_succ]
    refine wpAnyH_take (i := 4) (v := .int .i64 0) (by simp only [List.getElem?_toArray, List.getElem?_cons_zero, List.getElem?_cons_succ]; rfl) (by kernel_rfl) (by kernel_rfl) (by kernel_rfl) (fun _ _ _ h => h) (Or.inl ⟨by rfl, fun W hSw => ?_⟩) (by assumption) ?_
    · clear hSw
      (go_simp; all_goals (first | rfl | decide))
    simp only [Act.put, List.setIfInBounds_toArray, List.set_cons_zero, List.set_cons_succ]
    refine wpAnyH_take (i := 5) (v := .pointer (some ⟨sB, 0, none⟩)) (by simp only [List.getElem?_toArray, List.getElem?_cons_zero, List.getElem?_cons_succ]; rfl) (by kernel_rfl) (by kernel_rfl) (by kernel_rfl) (fun _ _ _ h => h) (Or.inl ⟨by rfl, fun W hSw => ?_⟩) (by assumption) ?_
    · clear hSw
      go_simp
    simp only [Act.put, List.setIfInBounds_toArray, List.set_cons_zero, List.set_cons_succ]
    refine wpAnyH_take (i := 6) (v := .pointer (some ⟨sB, 0, none⟩)) (by simp only [List.getElem?_toArray, List.getElem?_cons_zero, List.getElem?_cons_succ]; rfl) (by kernel_rfl) (by kernel_rfl) (by kernel_rfl) (fun _ _ _ h => h) (Or.inl ⟨by rfl, fun W hSw => ?_⟩) (by assumption) ?_
    · clear hSw
      go_simp
    simp only [Act.put, List.setIfInBounds_toArray, List.set_cons_zero, List.set_cons_succ]
    refine wpAnyH_take (i := 7) (v := .pointer (some ⟨sB, 0, none⟩)) (by simp only [List.getElem?_toArray, List.getElem?_cons_zero, List.getElem?_cons_succ]; rfl) (by kernel_rfl) (by kernel_rfl) (by kernel_rfl) (fun _ _ _ h => h) (Or.inl ⟨by rfl, fun W hSw => ?_⟩) (by assumption) ?_
    · clear hSw
      go_simp
    simp only [Act.put, List.setIfInBounds_toArray, List.set_cons_zero, List.set_cons_succ]
    refine wpAnyH_take (i := 8) (v := .int .i64 r0) (by simp only [List.getElem?_toArray, List.getElem?_cons_zero, List.getElem?_cons_succ]; rfl) (by kernel_rfl) (by kernel_rfl) (by kernel_rfl) (fun _ _ _ h => h) (Or.inl ⟨by rfl, fun W hSw => ?_⟩) (by assumption) ?_
    · have hcw := hSw
      go_simp
    simp only [Act.put, List.setIfInBounds_toArray, List.set_cons_zero, List.set_cons_succ]
    refine wpAnyH_take (i := 9) (v := .pointer (some ⟨sB, 0, none⟩)) (by simp only [List.getElem?_toArray, List.getElem?_cons_zero, List.getElem?_cons_succ]; rfl) (by kernel_rfl) (by kernel_rfl) (by kernel_rfl) (fun _ _ _ h => h) (Or.inl ⟨by rfl, fun W hSw => ?_⟩) (by assumption) ?_
    · clear hSw
      go_simp
    simp only [Act.put, List.setIfInBounds_toArray, List.set_cons_zero, List.set_cons_succ]
    refine wpAnyH_take (i := 10) (v := .pointer (some ⟨sB, 0, none⟩)) (by simp only [List.getElem?_toArray, List.getElem?_cons_zero, List.getElem?_cons_succ]; rfl) (by kernel_rfl) (by kernel_rfl) (by kernel_rfl) (fun _ _ _ h => h) (Or.inl ⟨by rfl, fun W hSw => ?_⟩) (by assumption) ?_
    · clear hSw
      go_simp
    simp only [Act.put, List.setIfInBounds_toArray, List.set_cons_zero, List.set_cons_succ]
    refine wpAnyH_take (i := 11) (v := .pointer (some ⟨sB, 1, none⟩)) (by simp only [List.getElem?_toArray, List.getElem?_cons_zero, List.getElem?_cons_succ]; rfl) (by kernel_rfl) (by kernel_rfl) (by kernel_rfl) (fun _ _ _ h => h) (Or.inl ⟨by rfl, fun W hSw => ?_⟩) (by assumption) ?_
    · clear hSw
      go_simp
    simp only [Act.put, List.setIfInBounds_toArray, List.set_cons_zero, List.set_cons_succ]
    have y0 := HSd3s.out.cell (k := 1) rfl
    have z0 := HSd3s.out.frozen 1
    have HS3ss := hid (HSd3s.out.set 1 (.int .i64 r0))
    have HX3ss := hid (HXd3s.out.other (a := ⟨sB, 1, none⟩) (.int .i64 r0) (by dsimp only; omega))
    have HZ3ss := hid (HZd3s.out.other (a := ⟨sB, 1, none⟩) (.int .i64 r0) (by dsimp only; omega))
    have HB3ss := hid (HBd3s.out.set (a := ⟨sB, 1, none⟩) (.inl ⟨Nat.le_refl _, Nat.lt_succ_self _⟩) (.int .i64 r0))
    refine wpAnyH_ready (rs := [12]) (by kernel_rfl) (by simp) ?_
    refine AllReadyH.cons (by simp only [List.getElem?_toArray, List.getElem?_cons_zero, List.getElem?_cons_succ]; rfl) (fun K hK => ?_) AllReadyH.nil
    rw [if_pos (by rfl)]
    go_simp
    refine hK.out _ _ (HS3ss.out.cell (k := 0) rfl) (fun _ => ?_)
    clear hK K
    refine wpAnyH_done (by kernel_rfl) ?_ _
    refine NoPanic.normal ?_
    clear y0 z0 HXd3s HZd3s HSd3s HBd3s hHeld
    generalize wd3s.setCell ⟨sB, 1, none⟩ (.int .i64 r0) = wn3s at *
    go_wp2_with fail
    rw [rounds_succ]
    have y0 := HS3ss.out.cell (k := 0) rfl
    have z0 := HS3ss.out.frozen 0
    go_upto_region 10 with fail
    clear y0 z0
    have HS9 := hid (HS3ss.out.set 0 (.int .i64 off))
    have HX9 := hid (HX3ss.out.other (a := ⟨sB, 0, none⟩) (.int .i64 off) (by dsimp only; omega))
    have HZ9 := hid (HZ3ss.out.other (a := ⟨sB, 0, none⟩) (.int .i64 off) (by dsimp only; omega))
    have HB9 := hid (HB3ss.out.set (a := ⟨sB, 0, none⟩) (.inl ⟨Nat.le_refl _, Nat.lt_succ_self _⟩) (.int .i64 off))
    clear HS3ss HX3ss HZ3ss HB3ss
    generalize wn3s.setCell ⟨sB, 0, none⟩ (.int .i64 off) = w9 at *
    have x0 := HX9.out.cell (k := 0) rfl
    have x1 := HX9.out.cell (k := 1) rfl
    have y0 := HZ9.out.cell (k := 0) rfl
    have z0 := HZ9.out.frozen 0
    have y1 := HZ9.out.cell (k := 1) rfl
    have z1 := HZ9.out.frozen 1
    have y2 := HZ9.out.cell (k := 2) rfl
    have z2 := HZ9.out.frozen 2
    go_wp2
    have HZs := hid (((HZ9.out.set 0 (.int .i64 lit)).set 1 (.int .i64 len)).set 2 (.int .i64 off))
    have HSs := hid (((HS9.out.other (a := ⟨w.heap.size + 1, 0, none⟩) (.int .i64 lit) (by dsimp only; omega)).other (a := ⟨w.heap.size + 1, 1, none⟩) (.int .i64 len) (by dsimp only; omega)).other (a := ⟨w.heap.size + 1, 2, none⟩) (.int .i64 off) (by dsimp only; omega))
    have HBs := hid (((HB9.out.set (a := ⟨w.heap.size + 1, 0, none⟩) (.inr (by dsimp only; omega)) (.int .i64 lit)).set (a := ⟨w.heap.size + 1, 1, none⟩) (.inr (by dsimp only; omega)) (.int .i64 len)).set (a := ⟨w.heap.size + 1, 2, none⟩) (.inr (by dsimp only; omega)) (.int .i64 off))
    clear x0 x1 y0 y1 y2 z0 z1 z2
    have p0 := HZs.out.cell (k := 0) rfl
    have p1 := HZs.out.cell (k := 1) rfl
    have p2 := HZs.out.cell (k := 2) rfl
    refine bodyPost_ret (v := .agg #[.int .i64 lit, .int .i64 len, .int .i64 off]) (by simp [results, Tryz.results81, go_sem, p0, p1, p2]) rfl ?_
    exact ⟨rfl, ⟨_, _, _, rfl, HSs.out⟩, HBs.out⟩
end Go.Proofs.YtolmmfbgljgdcaaGreat
