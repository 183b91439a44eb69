/-
  The walks of layer 29's statements: the chapter's examples.
-/
import Derived.Test.YtnmicfheekpnfaaCj
import Derived.Test.YtnmicfheekpnfaaMem
import Derived.Lib.SlBytesConst
namespace Go.Port
open Go.RowKit
def cva : List UInt8 := [97, 98, 99]
def cvd : List UInt8 := [97, 98, 99, 97, 98, 120, 97, 98, 99]
def cv : List UInt8 := [97, 98, 99, 97, 98, 99, 97, 98, 120, 97, 98, 99]
theorem cv_eq : cva ++ cvd = cv := rfl
theorem cv_a : findS cv 3 100 9 0 = some ⟨0, 5, 3⟩ := by decide +kernel
theorem cv_b : findS cv 3 100 9 6 = some ⟨0, 3, 6⟩ := by decide +kernel
theorem cv_c : findS cv 3 100 9 7 = none := by decide +kernel
theorem cv_d : allS cv 3 100 9 6 = [⟨0, 3, 6⟩] := by decide +kernel
theorem cv_e : placesS cv 3 100 9 6 = [6, 9] := by decide +kernel
theorem cv_f : placesS cv 3 100 9 1 = [3] := by decide +kernel
end Go.Port
namespace Go.Proofs.Ytnmicfheekpnfaa
open Go.RowKit Go.Port
theorem CellsAt.of_blk' {w : World} {a : Nat} {l : List Value} {ty : TypeId} (h : Blk w a l ty) : CellsAt w (some ⟨a, 0, none⟩) l := fun j u hu => ⟨a, 0, rfl, h.lt, by rw [Nat.zero_add]; exact h.cell hu⟩
theorem over_ex (w : World) (F : Nat) (a : Option Addr) (c : Nat) (h : FdAt 62 100 cv 3 100 9 F w) (hc : CellsAt w a (([⟨0, 3, 6⟩] : List Sq).flatMap sqc)) :
    Calls Try.prog 18 #[.pointer (some ⟨F, 0, none⟩), .int .i64 6, .slice a 1 c, .int .i64 9] w (RetV w (.bool true)) := by
  have := over_any cv 3 100 9 F 6 9 a c w h
  rw [cv_d] at this
  exact this hc (by decide)
theorem cdist_ex (w : World) (F : Nat) (p : Int) (l : List Nat) (h : FdAt 62 100 cv 3 100 9 F w) (el : placesS cv 3 100 9 p = l) :
    Calls Try.prog 15 #[.pointer (some ⟨F, 0, none⟩), .int .i64 p] w fun e w' => ∃ a c, e = .returned (.slice a l.length c) ∧ CellsAt w' a (l.map natI) ∧ Below w.heap.size w w' := by
  have := cdist_any cv 3 100 9 F p w h
  rw [el] at this
  refine this.mono ?_
  rintro e w' ⟨v, rfl, h1, h2⟩
  obtain ⟨a, c, rfl⟩ := own_slice h1
  refine ⟨a, c, rfl, ?_, h2⟩
  exact (Sl.of_owns h1).cells' rfl

set_option maxRecDepth 100000 in
set_option maxHeartbeats 4000000 in
theorem works_any (w : World) : Calls Try.prog 10 #[] w (RetV w (.bool true)) := by
  have hcv := Lib.run_convert_bytes_const (P := Try.prog) w 22 5 #[.int .u8 97, .int .u8 98, .int .u8 99] 3 3 Try.underlying22 Try.underlying5
  have hcv2 := Lib.run_convert_bytes_const (P := Try.prog) (w.alloc (.cells #[.int .u8 97, .int .u8 98, .int .u8 99] 5 (3, 4))) 22 5 #[.int .u8 97, .int .u8 98, .int .u8 99, .int .u8 97, .int .u8 98, .int .u8 120, .int .u8 97, .int .u8 98, .int .u8 99] 9 9 Try.underlying22 Try.underlying5
  rw [show (w.alloc (.cells #[.int .u8 97, .int .u8 98, .int .u8 99] 5 (3, 4))).heap.size = w.heap.size + 1 from by simp] at hcv2
  have HG0 := hid (show CellsAt (w.alloc (.cells (cva.map bv).toArray 5 (3, 3 + 1))) (some ⟨w.heap.size, 0, none⟩) (cva.map bv) from CellsAt.of_const (by simp) (fun j u hu => by
    have h := World.alloc_heap_new w (.cells (cva.map bv).toArray 5 (3, 3 + 1))
    unfold World.cell?
    show (match (w.alloc (.cells (cva.map bv).toArray 5 (3, 3 + 1))).heap[w.heap.size]? with
      | some (.cells cs _ _) => cs[j]?
      | _ => none) = some u
    rw [h]
    simpa using hu))
  have hs1 : (w.alloc (.cells (cva.map bv).toArray 5 (3, 3 + 1))).heap.size = w.heap.size + 1 := by simp
  have HG := hid (HG0.out.low (below_new (w.alloc (.cells (cva.map bv).toArray 5 (3, 3 + 1))) (.cells (cvd.map bv).toArray 5 (9, 9 + 1))))
  have HH := hid (show CellsAt ((w.alloc (.cells (cva.map bv).toArray 5 (3, 3 + 1))).alloc (.cells (cvd.map bv).toArray 5 (9, 9 + 1))) (some ⟨(w.alloc (.cells (cva.map bv).toArray 5 (3, 3 + 1))).heap.size, 0, none⟩) (cvd.map bv) from CellsAt.of_const (by simp) (fun j u hu => by
    have h := World.alloc_heap_new (w.alloc (.cells (cva.map bv).toArray 5 (3, 3 + 1))) (.cells (cvd.map bv).toArray 5 (9, 9 + 1))
    unfold World.cell?
    show (match ((w.alloc (.cells (cva.map bv).toArray 5 (3, 3 + 1))).alloc (.cells (cvd.map bv).toArray 5 (9, 9 + 1))).heap[(w.alloc (.cells (cva.map bv).toArray 5 (3, 3 + 1))).heap.size]? with
      | some (.cells cs _ _) => cs[j]?
      | _ => none) = some u
    rw [h]
    simpa using hu))
  rw [hs1] at HH
  have HB0 := hid ((below_new w (.cells (cva.map bv).toArray 5 (3, 3 + 1))).alloc (by simp) (.cells (cvd.map bv).toArray 5 (9, 9 + 1)))
  clear HG0
  go_enter Try.func10, Try.ntmps10
  go_wp2_with fail
  refine (cnew_ok (some ⟨w.heap.size, 0, none⟩) (some ⟨w.heap.size + 1, 0, none⟩) 3 9 cva cvd 100 9 _ (by decide) (by decide) (by decide) (by decide) (by simp) (by simp) HG.out HH.out (by decide) (by decide) (by decide) (by decide)).mono ?_
  rintro e w1 ⟨F, rfl, hF, hb⟩
  have HF1 := hid (show FdAt 62 100 cv 3 100 9 F w1 from hF.at)
  have HB1 := hid (HB0.out.trans (hb.mono HB0.out.size))
  clear hF hb HG HH HB0 hcv hcv2 hs1
  go_wp2_with fail
  refine (cnew_bad none none 0 0 0 0 0 1 _ (by decide)).mono ?_
  rintro e w' ⟨rfl, rfl⟩
  go_wp2_with fail
  refine (cnew_bad none none 0 0 0 0 1 4097 _ (by decide)).mono ?_
  rintro e w' ⟨rfl, rfl⟩
  go_wp2_with (first | (go_at_call 20; refine (num_any _ _).mono ?_; rintro e w' ⟨rfl, rfl⟩))
  refine (clen_any cv 3 100 9 F w1 HF1.out).mono ?_
  rintro e w' ⟨rfl, m, rfl⟩
  have HF2 := hid (HF1.out.drew m)
  have HB2 := hid (below_drewN HB1.out m)
  clear HF1 HB1
  go_wp2_with fail
  refine (chist_any cv 3 100 9 F _ HF2.out).mono ?_
  rintro e w' ⟨rfl, rfl⟩
  go_wp2_with fail
  generalize w1.drewN m = w2 at *
  refine (finds_any cv 3 100 9 F 0 5 3 _ HF2.out (by rw [cv_a]; rfl) (by rw [cv_a]; rfl)).mono ?_
  rintro e w3 ⟨rfl, hb⟩
  have HF3 := hid (HF2.out.low hb)
  have HB3 := hid (HB2.out.trans (hb.mono HB2.out.size))
  clear hb HF2 HB2
  go_wp2_with fail
  refine (finds_any cv 3 100 9 F 6 3 6 _ HF3.out (by rw [cv_b]; rfl) (by rw [cv_b]; rfl)).mono ?_
  rintro e w4 ⟨rfl, hb⟩
  have HF4 := hid (HF3.out.low hb)
  have HB4 := hid (HB3.out.trans (hb.mono HB3.out.size))
  clear hb HF3 HB3
  go_wp2_with fail
  refine (finds_any cv 3 100 9 F 7 0 0 _ HF4.out (by rw [cv_c]; rfl) (by rw [cv_c]; rfl)).mono ?_
  rintro e w5 ⟨rfl, hb⟩
  have HF5 := hid (HF4.out.low hb)
  have HB5 := hid (HB4.out.trans (hb.mono HB4.out.size))
  clear hb HF4 HB4
  have HX := hid (Blk.new w5 [.int .i64 0, .int .i64 3, .int .i64 6] 30)
  have HFx := hid (HF5.out.low (below_new w5 (.cells #[.int .i64 0, .int .i64 3, .int .i64 6] 30)))
  have HBx := hid (HB5.out.alloc HB5.out.size (.cells #[.int .i64 0, .int .i64 3, .int .i64 6] 30))
  go_wp2_with fail
  refine (over_ex _ F (some ⟨w5.heap.size, 0, none⟩) 1 HFx.out (CellsAt.of_blk' HX.out)).mono ?_
  rintro e w6 ⟨rfl, hb⟩
  have HF6 := hid (HFx.out.low hb)
  have HB6 := hid (HBx.out.trans (hb.mono HBx.out.size))
  clear hb HFx HBx HX HF5 HB5
  go_wp2_with fail
  refine (cdist_ex _ F 6 [6, 9] HF6.out cv_e).mono ?_
  rintro e w7 ⟨a6, c6, rfl, hc, hb⟩
  have HC := hid hc
  clear hc
  have HF7 := hid (HF6.out.low hb)
  have HB7 := hid (HB6.out.trans (hb.mono HB6.out.size))
  clear hb HF6 HB6
  have HX := hid (Blk.new w7 [.int .i64 6, .int .i64 9] 3)
  have HFx := hid (HF7.out.low (below_new w7 (.cells #[.int .i64 6, .int .i64 9] 3)))
  have HBx := hid (HB7.out.alloc HB7.out.size (.cells #[.int .i64 6, .int .i64 9] 3))
  have HCx := hid (HC.out.low (below_new w7 (.cells #[.int .i64 6, .int .i64 9] 3)))
  go_wp2_with fail
  refine (ints_same a6 (some ⟨w7.heap.size, 0, none⟩) c6 2 [6, 9] _ (by decide) HCx.out (CellsAt.of_blk' HX.out)).mono ?_
  rintro e w' ⟨rfl, m7, rfl⟩
  have hbd := below_drewN (Below.refl (w7.alloc (.cells #[.int .i64 6, .int .i64 9] 3)).heap.size (w7.alloc (.cells #[.int .i64 6, .int .i64 9] 3))) m7
  have HF8 := hid (HFx.out.low hbd)
  have HB8 := hid (HBx.out.trans (hbd.mono HBx.out.size))
  clear HFx HBx HX HCx HC hbd HF7 HB7
  generalize (w7.alloc (.cells #[.int .i64 6, .int .i64 9] 3)).drewN m7 = w8 at *
  go_wp2_with fail
  refine (cdist_ex _ F 1 [3] HF8.out cv_f).mono ?_
  rintro e w9 ⟨a8, c8, rfl, hc, hb⟩
  have HC := hid hc
  clear hc
  have HF9 := hid (HF8.out.low hb)
  have HB9 := hid (HB8.out.trans (hb.mono HB8.out.size))
  clear hb HF8 HB8
  have HX := hid (Blk.new w9 [.int .i64 3] 3)
  have HFx := hid (HF9.out.low (below_new w9 (.cells #[.int .i64 3] 3)))
  have HBx := hid (HB9.out.alloc HB9.out.size (.cells #[.int .i64 3] 3))
  have HCx := hid (HC.out.low (below_new w9 (.cells #[.int .i64 3] 3)))
  go_wp2_with fail
  refine (ints_same a8 (some ⟨w9.heap.size, 0, none⟩) c8 1 [3] _ (by decide) HCx.out (CellsAt.of_blk' HX.out)).mono ?_
  rintro e w' ⟨rfl, m9, rfl⟩
  have hbd := below_drewN (Below.refl (w9.alloc (.cells #[.int .i64 3] 3)).heap.size (w9.alloc (.cells #[.int .i64 3] 3))) m9
  have HF10 := hid (HFx.out.low hbd)
  have HB10 := hid (HBx.out.trans (hbd.mono HBx.out.size))
  clear HFx HBx HX HCx HC hbd HF9 HB9
  generalize (w9.alloc (.cells #[.int .i64 3] 3)).drewN m9 = w10 at *
  go_wp2
  go_ret
  exact ⟨rfl, HB10.out⟩
end Go.Proofs.Ytnmicfheekpnfaa
