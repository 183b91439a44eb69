/-
  The walks of layer 30's statements: the chapter's examples.
-/
import Derived.Test.YtngphgdoolcpcaaGrJ
import Derived.Test.YtngphgdoolcpcaaGrE
import Derived.Test.YtngphgdoolcpcaaMem
import Derived.Lib.SlBytesConst
namespace Go.Port
open Go.RowKit
def gv : List UInt8 := [97, 98, 99, 97, 98, 99, 120, 97, 98, 99, 97]
theorem gv_fits : gv.length = 11 := rfl
theorem gv_a : seqs (fromL gv 0 100 9 0 3) = [⟨3, 3, 3⟩, ⟨1, 4, 7⟩] := by decide +kernel
theorem gv_b : fromE gv 0 6 3 = 0 ∧ seqs (fromL gv 0 100 9 6 3) = [⟨1, 4, 7⟩] := by decide +kernel
theorem gv_c : fromE gv 0 0 5 = 0 ∧ seqs (fromL gv 0 100 9 0 5) = [] := by decide +kernel
theorem gv_d : fromE gv 0 0 2 = 2 ∧ seqs (fromL gv 0 100 9 0 2) = [] := by decide +kernel
theorem gv_e : fromE gv 0 99 3 = 21 ∧ seqs (fromL gv 0 100 9 99 3) = [] := by decide +kernel
theorem gv_f : costM 11 [⟨3, 3, 3⟩, ⟨1, 4, 7⟩] = some 59 := by decide +kernel
end Go.Port
namespace Go.Proofs.Ytngphgdoolcpcaa
open Go.RowKit Go.Port
theorem gmin_ex (w : World) (F : Nat) (n : Int) (E : Int) (l : List Sq) (h : FdAt 57 119 gv 0 100 9 F w) (e : fromE gv 0 0 n = E ∧ seqs (fromL gv 0 100 9 0 n) = l) :
    Calls Try.prog 20 #[.pointer (some ⟨F, 0, none⟩), .int .i64 n] w fun e w' => ∃ a c, e = .returned (.tuple #[.slice a l.length c, .int .i64 E]) ∧ CellsAt w' a (l.flatMap sqc) ∧ Below w.heap.size w w' := by
  have := gmin_any gv 0 100 9 F n w h
  rw [e.1, e.2] at this
  refine this.mono ?_
  rintro e w' ⟨v, rfl, h1, h2⟩
  obtain ⟨a, c, rfl⟩ := own_slice h1
  exact ⟨a, c, rfl, (Sl.of_owns h1).cells' rfl, h2⟩
theorem gfrom_ex (w : World) (F : Nat) (p n : Int) (E : Int) (l : List Sq) (h : FdAt 57 119 gv 0 100 9 F w) (e : fromE gv 0 p n = E ∧ seqs (fromL gv 0 100 9 p n) = l) :
    Calls Try.prog 19 #[.pointer (some ⟨F, 0, none⟩), .int .i64 p, .int .i64 n] w fun e w' => ∃ a c, e = .returned (.tuple #[.slice a l.length c, .int .i64 E]) ∧ CellsAt w' a (l.flatMap sqc) ∧ Below w.heap.size w w' := by
  have := gfrom_any gv 0 100 9 F p n w h
  rw [e.1, e.2] at this
  refine this.mono ?_
  rintro e w' ⟨v, rfl, h1, h2⟩
  obtain ⟨a, c, rfl⟩ := own_slice h1
  exact ⟨a, c, rfl, (Sl.of_owns h1).cells' rfl, h2⟩
theorem gparse_ex (w : World) (F : Nat) (h : FdAt 57 119 gv 0 100 9 F w) :
    Calls Try.prog 13 #[.pointer (some ⟨F, 0, none⟩)] w fun e w' => ∃ a c, e = .returned (.tuple #[.slice a 2 c, .int .i64 0]) ∧ CellsAt w' a (([⟨3, 3, 3⟩, ⟨1, 4, 7⟩] : List Sq).flatMap sqc) ∧ Below w.heap.size w w' := by
  have := gparse_any gv 0 100 9 F w h
  rw [gv_a] at this
  refine this.mono ?_
  rintro e w' ⟨v, rfl, h1, h2⟩
  obtain ⟨a, c, rfl⟩ := own_slice h1
  exact ⟨a, c, rfl, (Sl.of_owns h1).cells' rfl, h2⟩
theorem gcost_ex (w : World) (F : Nat) (h : FdAt 57 119 gv 0 100 9 F w) :
    Calls Try.prog 15 #[.pointer (some ⟨F, 0, none⟩)] w (RetV w (.tuple #[.int .i64 59, .int .i64 0])) := by
  have := gcost_any gv 0 100 9 F w h (by decide)
  rw [gv_a, show ((gv.length : Int) - ((0 : Nat) : Int)) = 11 from rfl, gv_f] at this
  exact this
set_option maxRecDepth 100000 in
set_option maxHeartbeats 4000000 in
theorem works_any (w : World) : Calls Try.prog 12 #[] w (RetV w (.bool true)) := by
  have hcv := Lib.run_convert_bytes_const (P := Try.prog) w 22 5 #[.int .u8 97, .int .u8 98, .int .u8 99, .int .u8 97, .int .u8 98, .int .u8 99, .int .u8 120, .int .u8 97, .int .u8 98, .int .u8 99, .int .u8 97] 11 11 Try.underlying22 Try.underlying5
  have HG := hid (show CellsAt (w.alloc (.cells (gv.map bv).toArray 5 (11, 11 + 1))) (some ⟨w.heap.size, 0, none⟩) (gv.map bv) from CellsAt.of_const (by simp) (fun j u hu => by
    have h := World.alloc_heap_new w (.cells (gv.map bv).toArray 5 (11, 11 + 1))
    unfold World.cell?
    show (match (w.alloc (.cells (gv.map bv).toArray 5 (11, 11 + 1))).heap[w.heap.size]? with
      | some (.cells cs _ _) => cs[j]?
      | _ => none) = some u
    rw [h]
    simpa using hu))
  have HB0 := hid (below_new w (.cells (gv.map bv).toArray 5 (11, 11 + 1)))
  go_enter Try.func12, Try.ntmps12
  go_wp2_with fail
  refine (cnew_ok none (some ⟨w.heap.size, 0, none⟩) 0 11 [] gv 100 9 _ (by decide) (by decide) (by decide) (by decide) (by simp) (by simp) (fun j u hu => by simp at hu) HG.out (by decide) (by decide) (by decide) (by decide)).mono ?_
  rintro e w1 ⟨F, rfl, hF, hb⟩
  have HF1 := hid (show FdAt 57 119 gv 0 100 9 F w1 from hF.at)
  have HB1 := hid (HB0.out.trans (hb.mono HB0.out.size))
  clear hF hb HG HB0 hcv
  go_wp2_with fail
  refine (gparse_ex w1 F HF1.out).mono ?_
  rintro e w2 ⟨a1, c1, rfl, hc, hb⟩
  have HF2 := hid (HF1.out.low hb)
  have HB2 := hid (HB1.out.trans (hb.mono HB1.out.size))
  have HC2 := hid hc
  clear hc hb HF1 HB1
  go_wp2_with fail
  refine (gfrom_ex w2 F 6 3 0 _ HF2.out gv_b).mono ?_
  rintro e w3 ⟨a2, c2, rfl, hc, hb⟩
  have HF3 := hid (HF2.out.low hb)
  have HB3 := hid (HB2.out.trans (hb.mono HB2.out.size))
  have HC3 := hid (HC2.out.low hb)
  have HD3 := hid hc
  clear hc hb HF2 HB2 HC2
  go_wp2_with fail
  refine (gmin_ex w3 F 5 0 _ HF3.out gv_c).mono ?_
  rintro e w4 ⟨a3, c3, rfl, hc, hb⟩
  have HF4 := hid (HF3.out.low hb)
  have HB4 := hid (HB3.out.trans (hb.mono HB3.out.size))
  have HC4 := hid (HC3.out.low hb)
  have HD4 := hid (HD3.out.low hb)
  clear hc hb HF3 HB3 HC3 HD3
  go_wp2_with fail
  refine (gmin_ex w4 F 2 2 _ HF4.out gv_d).mono ?_
  rintro e w5 ⟨a4, c4, rfl, hc, hb⟩
  have HF5 := hid (HF4.out.low hb)
  have HB5 := hid (HB4.out.trans (hb.mono HB4.out.size))
  have HC5 := hid (HC4.out.low hb)
  have HD5 := hid (HD4.out.low hb)
  clear hc hb HF4 HB4 HC4 HD4
  go_wp2_with fail
  refine (gfrom_ex w5 F 99 3 21 _ HF5.out gv_e).mono ?_
  rintro e w6 ⟨a5, c5, rfl, hc, hb⟩
  have HF6 := hid (HF5.out.low hb)
  have HB6 := hid (HB5.out.trans (hb.mono HB5.out.size))
  have HC6 := hid (HC5.out.low hb)
  have HD6 := hid (HD5.out.low hb)
  clear hc hb HF5 HB5 HC5 HD5
  go_wp2_with fail
  refine (gcost_ex w6 F HF6.out).mono ?_
  rintro e w7 ⟨rfl, hb⟩
  have hb7 := HB6.out.trans (hb.mono HB6.out.size)
  have HB7 := hid (hb7.alloc hb7.size (.cells #[.int .i64 3, .int .i64 3, .int .i64 3, .int .i64 1, .int .i64 4, .int .i64 7] 45))
  have HC7 := hid ((HC6.out.low hb).low (below_new w7 (.cells #[.int .i64 3, .int .i64 3, .int .i64 3, .int .i64 1, .int .i64 4, .int .i64 7] 45)))
  have HD7 := hid ((HD6.out.low hb).low (below_new w7 (.cells #[.int .i64 3, .int .i64 3, .int .i64 3, .int .i64 1, .int .i64 4, .int .i64 7] 45)))
  have HX7 := hid (Blk.new w7 [.int .i64 3, .int .i64 3, .int .i64 3, .int .i64 1, .int .i64 4, .int .i64 7] 45)
  clear hb hb7 HF6 HB6 HC6 HD6
  go_wp2_with (first | (go_at_call 16; refine (num_any _ _).mono ?_; rintro e w' ⟨rfl, rfl⟩))
  refine (same_ex _ a1 c1 _ [⟨3, 3, 3⟩, ⟨1, 4, 7⟩] (by decide) HC7.out HX7.out).mono ?_
  rintro e w' ⟨rfl, m, rfl⟩
  have hb8 := (below_drewN HB7.out m)
  have hd8 := (HD7.out.low (below_drewN (Below.refl _ _) m))
  have HB8 := hid (hb8.alloc hb8.size (.cells #[.int .i64 1, .int .i64 4, .int .i64 7] 45))
  have HD8 := hid (hd8.low (below_new _ (.cells #[.int .i64 1, .int .i64 4, .int .i64 7] 45)))
  clear hb8 hd8 HB7 HC7 HD7 HX7
  generalize (w7.alloc (.cells #[.int .i64 3, .int .i64 3, .int .i64 3, .int .i64 1, .int .i64 4, .int .i64 7] 45)).drewN m = w8 at *
  have HX8 := hid (Blk.new w8 [.int .i64 1, .int .i64 4, .int .i64 7] 45)
  go_wp2_with fail
  refine (same_ex _ a2 c2 _ [⟨1, 4, 7⟩] (by decide) HD8.out HX8.out).mono ?_
  rintro e w' ⟨rfl, m, rfl⟩
  have HB9 := hid (below_drewN HB8.out m)
  go_wp2
  go_ret
  exact ⟨rfl, HB9.out⟩
end Go.Proofs.Ytngphgdoolcpcaa
