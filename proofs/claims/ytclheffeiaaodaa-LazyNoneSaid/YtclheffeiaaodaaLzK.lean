/-
  The walks of layer 31's statements: the chapter's examples.
-/
import Derived.Test.YtclheffeiaaodaaLzJ
import Derived.Test.YtclheffeiaaodaaLzU
import Derived.Lib.SlBytesConst
namespace Go.Port
open Go.RowKit
def lv : List UInt8 := [97, 98, 99, 120, 98, 99, 100, 101, 102, 121, 97, 98, 99, 100, 101, 102, 103]
theorem lv_a : seqs (lazyL lv 0 100 9 0) = [⟨10, 3, 10⟩, ⟨0, 3, 7⟩] := by decide +kernel
theorem lv_b : seqs (lazyL lv 0 100 9 1) = [⟨11, 5, 7⟩] := by decide +kernel
theorem lv_c : lazyK lv 0 100 9 1 = [117, 110] := by decide +kernel
theorem lv_d : lazyBo lv 0 100 9 1 = 1 ∧ lazyBp lv 0 100 9 1 = 110 := by decide +kernel
theorem lv_e : seqs (lazyP lv 0 100 9 (lazyB lv 0 100 9 2)) = [⟨11, 5, 7⟩] := by decide +kernel
theorem lv_f : seqs (lazyL lv 0 100 9 9) = [] := by decide +kernel
end Go.Port
namespace Go.Proofs.Ytclheffeiaaodaa
open Go.RowKit Go.Port
theorem look_ex (w : World) (F : Nat) (far E : Int) (l : List Sq) (h : FdAt 64 130 lv 0 100 9 F w) (e1 : lazyE far = E) (e2 : seqs (lazyL lv 0 100 9 far) = l) :
    Calls Try.prog 13 #[.pointer (some ⟨F, 0, none⟩), .int .i64 far] w fun e w' => ∃ a c, e = .returned (.tuple #[.slice a l.length c, .int .i64 E]) ∧ CellsAt w' a (l.flatMap sqc) ∧ Below w.heap.size w w' := by
  have := look_any lv 0 100 9 F far w h
  rw [e1, e2] at this
  refine this.mono ?_
  rintro e w' ⟨v, rfl, h1, h2⟩
  obtain ⟨a, c, rfl⟩ := own_slice h1
  exact ⟨a, c, rfl, (Sl.of_owns h1).cells' rfl, h2⟩
theorem lzcosts_ex (w : World) (F : Nat) (h : FdAt 64 130 lv 0 100 9 F w) :
    Calls Try.prog 17 #[.pointer (some ⟨F, 0, none⟩), .int .i64 1] w fun e w' => ∃ a c, e = .returned (.tuple #[.slice a 2 c, .int .i64 0]) ∧ CellsAt w' a [.int .i64 117, .int .i64 110] ∧ Below w.heap.size w w' := by
  have := lzcosts_any lv 0 100 9 1 F w h (by decide)
  rw [lv_c] at this
  refine this.mono ?_
  rintro e w' ⟨v, rfl, h1, h2⟩
  obtain ⟨a, c, rfl⟩ := own_slice h1
  exact ⟨a, c, rfl, (Sl.of_owns h1).cells' rfl, h2⟩
theorem lzbest_ex (w : World) (F : Nat) (h : FdAt 64 130 lv 0 100 9 F w) :
    Calls Try.prog 19 #[.pointer (some ⟨F, 0, none⟩), .int .i64 1] w (RetV w (.tuple #[.int .i64 1, .int .i64 110, .int .i64 0])) := by
  have := lzbest_any lv 0 100 9 1 F w h (by decide)
  rw [lv_d.1, lv_d.2] at this
  exact this
theorem lzparse_ex (w : World) (F : Nat) (h : FdAt 64 130 lv 0 100 9 F w) :
    Calls Try.prog 21 #[.pointer (some ⟨F, 0, none⟩)] w fun e w' => ∃ a c, e = .returned (.tuple #[.slice a 1 c, .int .i64 0]) ∧ CellsAt w' a (([⟨11, 5, 7⟩] : List Sq).flatMap sqc) ∧ Below w.heap.size w w' := by
  have := lzparse_any lv 0 100 9 F w h (by decide)
  rw [lv_e] at this
  refine this.mono ?_
  rintro e w' ⟨v, rfl, h1, h2⟩
  obtain ⟨a, c, rfl⟩ := own_slice h1
  exact ⟨a, c, rfl, (Sl.of_owns h1).cells' rfl, h2⟩

set_option maxRecDepth 100000 in
set_option maxHeartbeats 4000000 in
theorem works_any (w : World) : Calls Try.prog 12 #[] w (RetV w (.bool true)) := by
  have hcv := Lib.run_convert_bytes_const (P := Try.prog) w 22 5 #[.int .u8 97, .int .u8 98, .int .u8 99, .int .u8 120, .int .u8 98, .int .u8 99, .int .u8 100, .int .u8 101, .int .u8 102, .int .u8 121, .int .u8 97, .int .u8 98, .int .u8 99, .int .u8 100, .int .u8 101, .int .u8 102, .int .u8 103] 17 17 Try.underlying22 Try.underlying5
  have HG := hid (show CellsAt (w.alloc (.cells (lv.map bv).toArray 5 (17, 17 + 1))) (some ⟨w.heap.size, 0, none⟩) (lv.map bv) from CellsAt.of_const (by simp) (fun j u hu => by
    have h := World.alloc_heap_new w (.cells (lv.map bv).toArray 5 (17, 17 + 1))
    unfold World.cell?
    show (match (w.alloc (.cells (lv.map bv).toArray 5 (17, 17 + 1))).heap[w.heap.size]? with
      | some (.cells cs _ _) => cs[j]?
      | _ => none) = some u
    rw [h]
    simpa using hu))
  have HB0 := hid (below_new w (.cells (lv.map bv).toArray 5 (17, 17 + 1)))
  have HNo := hid (fun W => look_none none 0 W (.inl rfl))
  go_enter Try.func12, Try.ntmps12
  go_wp2_with fail
  refine (cnew_ok none (some ⟨w.heap.size, 0, none⟩) 0 17 [] lv 100 9 _ (by decide) (by decide) (by decide) (by decide) (by simp) (by simp) (fun j u hu => by simp at hu) HG.out (by decide) (by decide) (by decide) (by decide)).mono ?_
  rintro e w1 ⟨F, rfl, hF, hb⟩
  have HF1 := hid (show FdAt 64 130 lv 0 100 9 F w1 from hF.at)
  have HB1 := hid (HB0.out.trans (hb.mono HB0.out.size))
  clear hF hb HG HB0 hcv
  go_wp2_with fail
  refine (look_ex w1 F 0 0 _ HF1.out (by decide) lv_a).mono ?_
  rintro e w2 ⟨a1, c1, rfl, hc, hb⟩
  have HF2 := hid (HF1.out.low hb)
  have HB2 := hid (HB1.out.trans (hb.mono HB1.out.size))
  have HC2 := hid hc
  clear hc hb HF1 HB1 
  go_wp2_with fail
  refine (look_ex w2 F 1 0 _ HF2.out (by decide) lv_b).mono ?_
  rintro e w3 ⟨a2, c2, rfl, hc, hb⟩
  have HF3 := hid (HF2.out.low hb)
  have HB3 := hid (HB2.out.trans (hb.mono HB2.out.size))
  have HC3 := hid (HC2.out.low hb)
  have HD3 := hid hc
  clear hc hb HF2 HB2 HC2
  go_wp2_with fail
  refine (lzcosts_ex w3 F HF3.out).mono ?_
  rintro e w4 ⟨a3, c3, rfl, hc, hb⟩
  have HF4 := hid (HF3.out.low hb)
  have HB4 := hid (HB3.out.trans (hb.mono HB3.out.size))
  have HC4 := hid (HC3.out.low hb)
  have HD4 := hid (HD3.out.low hb)
  have HE4 := hid hc
  clear hc hb HF3 HB3 HC3 HD3
  go_wp2_with fail
  refine (lzbest_ex w4 F HF4.out).mono ?_
  rintro e w5 ⟨rfl, hb⟩
  have HF5 := hid (HF4.out.low hb)
  have HB5 := hid (HB4.out.trans (hb.mono HB4.out.size))
  have HC5 := hid (HC4.out.low hb)
  have HD5 := hid (HD4.out.low hb)
  have HE5 := hid (HE4.out.low hb)
  clear hb HF4 HB4 HC4 HD4 HE4
  go_wp2_with fail
  refine (lzparse_ex w5 F HF5.out).mono ?_
  rintro e w6 ⟨a5, c5, rfl, hc, hb⟩
  have HF6 := hid (HF5.out.low hb)
  have HB6 := hid (HB5.out.trans (hb.mono HB5.out.size))
  have HC6 := hid (HC5.out.low hb)
  have HD6 := hid (HD5.out.low hb)
  have HE6 := hid (HE5.out.low hb)
  have HP6 := hid hc
  clear hc hb HF5 HB5 HC5 HD5 HE5
  go_wp2_with fail
  refine (look_ex w6 F 9 2 _ HF6.out (by decide) lv_f).mono ?_
  rintro e w7 ⟨a6, c6, rfl, hc, hb⟩
  have HF7 := hid (HF6.out.low hb)
  have HB7 := hid (HB6.out.trans (hb.mono HB6.out.size))
  have HC7 := hid (HC6.out.low hb)
  have HD7 := hid (HD6.out.low hb)
  have HE7 := hid (HE6.out.low hb)
  have HP7 := hid (HP6.out.low hb)
  have HQ7 := hid hc
  clear hc hb HF6 HB6 HC6 HD6 HE6 HP6
  go_wp2_with fail
  refine (HNo.out _).mono ?_
  rintro e w' ⟨rfl, rfl⟩
  have HB8 := hid (HB7.out.alloc HB7.out.size (.cells #[.int .i64 10, .int .i64 3, .int .i64 10, .int .i64 0, .int .i64 3, .int .i64 7] 49))
  have HC8 := hid (HC7.out.low (below_new w7 (.cells #[.int .i64 10, .int .i64 3, .int .i64 10, .int .i64 0, .int .i64 3, .int .i64 7] 49)))
  have HD8 := hid (HD7.out.low (below_new w7 (.cells #[.int .i64 10, .int .i64 3, .int .i64 10, .int .i64 0, .int .i64 3, .int .i64 7] 49)))
  have HE8 := hid (HE7.out.low (below_new w7 (.cells #[.int .i64 10, .int .i64 3, .int .i64 10, .int .i64 0, .int .i64 3, .int .i64 7] 49)))
  have HP8 := hid (HP7.out.low (below_new w7 (.cells #[.int .i64 10, .int .i64 3, .int .i64 10, .int .i64 0, .int .i64 3, .int .i64 7] 49)))
  have HX8 := hid (Blk.new w7 [.int .i64 10, .int .i64 3, .int .i64 10, .int .i64 0, .int .i64 3, .int .i64 7] 49)
  clear HF7 HB7 HC7 HD7 HE7 HP7 HQ7 HNo
  go_wp2_with (first | (go_at_call 16; refine (num_any _ _).mono ?_; rintro e w' ⟨rfl, rfl⟩))
  refine (same_ex _ a1 c1 _ [⟨10, 3, 10⟩, ⟨0, 3, 7⟩] (by decide) HC8.out HX8.out).mono ?_
  rintro e w' ⟨rfl, m, rfl⟩
  have hbd := below_drewN (Below.refl (w7.alloc (.cells #[.int .i64 10, .int .i64 3, .int .i64 10, .int .i64 0, .int .i64 3, .int .i64 7] 49)).heap.size (w7.alloc (.cells #[.int .i64 10, .int .i64 3, .int .i64 10, .int .i64 0, .int .i64 3, .int .i64 7] 49))) m
  have HB8b := hid (HB8.out.trans (hbd.mono HB8.out.size))
  have HD8b := hid (HD8.out.low hbd)
  have HE8b := hid (HE8.out.low hbd)
  have HP8b := hid (HP8.out.low hbd)
  clear hbd HB8 HC8 HD8 HE8 HP8 HX8
  generalize (w7.alloc (.cells #[.int .i64 10, .int .i64 3, .int .i64 10, .int .i64 0, .int .i64 3, .int .i64 7] 49)).drewN m = w8 at *
  have HB9 := hid (HB8b.out.alloc HB8b.out.size (.cells #[.int .i64 11, .int .i64 5, .int .i64 7] 49))
  have HD9 := hid (HD8b.out.low (below_new w8 (.cells #[.int .i64 11, .int .i64 5, .int .i64 7] 49)))
  have HE9 := hid (HE8b.out.low (below_new w8 (.cells #[.int .i64 11, .int .i64 5, .int .i64 7] 49)))
  have HP9 := hid (HP8b.out.low (below_new w8 (.cells #[.int .i64 11, .int .i64 5, .int .i64 7] 49)))
  have HX9 := hid (Blk.new w8 [.int .i64 11, .int .i64 5, .int .i64 7] 49)
  clear HB8b HD8b HE8b HP8b
  go_wp2_with fail
  refine (same_ex _ a2 c2 _ [⟨11, 5, 7⟩] (by decide) HD9.out HX9.out).mono ?_
  rintro e w' ⟨rfl, m, rfl⟩
  have hbd := below_drewN (Below.refl (w8.alloc (.cells #[.int .i64 11, .int .i64 5, .int .i64 7] 49)).heap.size (w8.alloc (.cells #[.int .i64 11, .int .i64 5, .int .i64 7] 49))) m
  have HBa := hid (HB9.out.trans (hbd.mono HB9.out.size))
  have HDa := hid (HD9.out.low hbd)
  have HEa := hid (HE9.out.low hbd)
  have HPa := hid (HP9.out.low hbd)
  clear hbd HB9 HD9 HE9 HP9 HX9
  generalize (w8.alloc (.cells #[.int .i64 11, .int .i64 5, .int .i64 7] 49)).drewN m = w9 at *
  obtain ⟨be, oe, rfl, _, x0⟩ := HEa.out 0 _ rfl
  obtain ⟨_, _, e1, _, x1⟩ := HEa.out 1 _ rfl
  cases e1
  rw [Nat.add_zero] at x0
  go_wp2_with fail
  refine (rsame_self a5 a2 c5 c2 [⟨11, 5, 7⟩] _ (by decide) HPa.out HDa.out).mono ?_
  rintro e w' ⟨rfl, m, rfl⟩
  have HBb := hid (below_drewN HBa.out m)
  clear x0 x1
  go_wp2
  go_ret
  exact ⟨rfl, HBb.out⟩
end Go.Proofs.Ytclheffeiaaodaa
