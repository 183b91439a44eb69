/-
  The walks of the split, sixteenth part: the chapter's examples, walked.
-/
import Derived.Test.YtadnhjloeaddnaaSplitO
import Derived.Lib.SlBytesConst
namespace Go.Proofs.Ytadnhjloeaddnaa
open Go.RowKit Go.Port

set_option maxRecDepth 100000 in
set_option maxHeartbeats 4000000 in
theorem works_any (w : World) : Calls Try.prog 12 #[] w (RetV w (.bool true)) := by
  have hcv := Lib.run_convert_bytes_const (P := Try.prog) w 25 5 #[.int .u8 97, .int .u8 98] 2 2 Try.underlying25 Try.underlying5
  have HA0 := hid (Rd.newF w AB 5 (2, 2 + 1))
  have HB0 := hid (below_new w (.cells #[.int .u8 97, .int .u8 98] 5 (2, 2 + 1)))
  go_enter Try.func12, Try.ntmps12
  go_wp2_with fail
  have HA1 := hid (HA0.out.alloc (.cells #[.int .i64 1] 3))
  have HB1 := hid (HB0.out.alloc (Below.size HB0.out) (.cells #[.int .i64 1] 3))
  clear HA0 HB0
  refine (cost_ab1 _ _ _ (by exact HA1.out) (by exact Blk.newAt (by simp))).mono ?_
  rintro e w2 ⟨rfl, hb⟩
  have HA2 := hid (HA1.out.low hb)
  have HB2 := hid (HB1.out.trans (hb.mono (Below.size HB1.out)))
  clear HA1 HB1 hb
  go_wp2_with fail
  have HA3 := hid (HA2.out.alloc (.cells #[.int .i64 2] 3))
  have HB3 := hid (HB2.out.alloc (Below.size HB2.out) (.cells #[.int .i64 2] 3))
  clear HA2 HB2
  refine (cost_ab2 _ _ _ (by exact HA3.out) (by exact Blk.newAt (by simp))).mono ?_
  rintro e w4 ⟨rfl, hb⟩
  have HA4 := hid (HA3.out.low hb)
  have HB4 := hid (HB3.out.trans (hb.mono (Below.size HB3.out)))
  clear HA3 HB3 hb
  go_wp2_with fail
  refine (single_nil _).mono ?_
  rintro e w5 ⟨rfl, hb⟩
  have HA5 := hid (HA4.out.low hb)
  have HB5 := hid (HB4.out.trans (hb.mono (Below.size HB4.out)))
  clear HA4 HB4 hb
  go_wp2_with fail
  refine (single_ab _ _ (by exact HA5.out)).mono ?_
  rintro e w6 ⟨rfl, hb⟩
  have HA6 := hid (HA5.out.low hb)
  have HB6 := hid (HB5.out.trans (hb.mono (Below.size HB5.out)))
  clear HA5 HB5 hb
  go_wp2_with fail
  refine (num_any _ _).mono ?_
  rintro e w' ⟨rfl, rfl⟩
  go_wp2_with fail
  refine (num_any _ _).mono ?_
  rintro e w' ⟨rfl, rfl⟩
  go_wp2_with fail
  refine (eqcuts_any 10 4 _ (by omega) (by omega)).mono ?_
  rintro e w7 ⟨v, rfl, hsl, hb⟩
  have HA7 := hid (HA6.out.low hb)
  have HB7 := hid (HB6.out.trans (hb.mono (Below.size HB6.out)))
  rw [ex_eq1] at hsl
  have hsl2 : Sl w7 1 v 2 (([4, 8] : List Int).map iv) := hsl
  obtain ⟨av, cv, rfl, _⟩ := hsl2.open
  have HS := hid (hsl2.alloc (.cells #[.int .i64 4, .int .i64 8] 3))
  clear hsl hsl2
  clear HA6 HB6 hb
  go_wp2_with fail
  have HA8 := hid (HA7.out.alloc (.cells #[.int .i64 4, .int .i64 8] 3))
  have HB8 := hid (HB7.out.alloc (Below.size HB7.out) (.cells #[.int .i64 4, .int .i64 8] 3))
  clear HA7 HB7
  refine (same_ex _ 2 _ _ [4, 8] _ (by exact HS.out) (by exact Blk.newAt (by simp)) rfl (by omega)).mono ?_
  rintro e w9 ⟨rfl, hb⟩
  have HA9 := hid (HA8.out.low hb)
  have HB9 := hid (HB8.out.trans (hb.mono (Below.size HB8.out)))
  clear HA8 HB8 hb
  go_wp2_with fail
  clear HS
  refine (eqcuts_any 8 4 _ (by omega) (by omega)).mono ?_
  rintro e w10 ⟨v, rfl, hsl, hb⟩
  have HA10 := hid (HA9.out.low hb)
  have HB10 := hid (HB9.out.trans (hb.mono (Below.size HB9.out)))
  rw [ex_eq2] at hsl
  have hsl2 : Sl w10 1 v 1 (([4] : List Int).map iv) := hsl
  obtain ⟨av, cv, rfl, _⟩ := hsl2.open
  have HS := hid (hsl2.alloc (.cells #[.int .i64 4] 3))
  clear hsl hsl2
  clear HA9 HB9 hb
  go_wp2_with fail
  have HA11 := hid (HA10.out.alloc (.cells #[.int .i64 4] 3))
  have HB11 := hid (HB10.out.alloc (Below.size HB10.out) (.cells #[.int .i64 4] 3))
  clear HA10 HB10
  refine (same_ex _ 1 _ _ [4] _ (by exact HS.out) (by exact Blk.newAt (by simp)) rfl (by omega)).mono ?_
  rintro e w12 ⟨rfl, hb⟩
  have HA12 := hid (HA11.out.low hb)
  have HB12 := hid (HB11.out.trans (hb.mono (Below.size HB11.out)))
  clear HA11 HB11 hb
  go_wp2_with fail
  clear HS
  have HA13 := hid (HA12.out.alloc (.cells #[.int .i64 4, .int .i64 8] 3))
  have HB13 := hid (HB12.out.alloc (Below.size HB12.out) (.cells #[.int .i64 4, .int .i64 8] 3))
  clear HA12 HB12
  refine (check_ex _ 2 [4, 8] 0 _ (by exact Blk.newAt (by simp)) rfl (by omega) (by kernel_rfl)).mono ?_
  rintro e w14 ⟨rfl, hb⟩
  have HA14 := hid (HA13.out.low hb)
  have HB14 := hid (HB13.out.trans (hb.mono (Below.size HB13.out)))
  clear HA13 HB13 hb
  go_wp2_with fail
  refine (num_any _ _).mono ?_
  rintro e w' ⟨rfl, rfl⟩
  go_wp2_with fail
  have HA15 := hid (HA14.out.alloc (.cells #[.int .i64 4] 3))
  have HB15 := hid (HB14.out.alloc (Below.size HB14.out) (.cells #[.int .i64 4] 3))
  clear HA14 HB14
  refine (check_ex _ 1 [4] 2 _ (by exact Blk.newAt (by simp)) rfl (by omega) (by kernel_rfl)).mono ?_
  rintro e w16 ⟨rfl, hb⟩
  have HA16 := hid (HA15.out.low hb)
  have HB16 := hid (HB15.out.trans (hb.mono (Below.size HB15.out)))
  clear HA15 HB15 hb
  go_wp2_with fail
  refine (num_any _ _).mono ?_
  rintro e w' ⟨rfl, rfl⟩
  go_wp2_with fail
  have HA17 := hid (HA16.out.alloc (.cells #[.int .i64 8, .int .i64 4] 3))
  have HB17 := hid (HB16.out.alloc (Below.size HB16.out) (.cells #[.int .i64 8, .int .i64 4] 3))
  clear HA16 HB16
  refine (check_ex _ 2 [8, 4] 2 _ (by exact Blk.newAt (by simp)) rfl (by omega) (by kernel_rfl)).mono ?_
  rintro e w18 ⟨rfl, hb⟩
  have HA18 := hid (HA17.out.low hb)
  have HB18 := hid (HB17.out.trans (hb.mono (Below.size HB17.out)))
  clear HA17 HB17 hb
  go_wp2_with fail
  refine (num_any _ _).mono ?_
  rintro e w' ⟨rfl, rfl⟩
  go_wp2_with fail
  refine (min_ab _ _ (by exact HA18.out)).mono ?_
  rintro e w19 ⟨rfl, hb⟩
  have HA19 := hid (HA18.out.low hb)
  have HB19 := hid (HB18.out.trans (hb.mono (Below.size HB18.out)))
  clear HA18 HB18 hb
  go_wp2_with fail
  refine (cuts_ab1 _ _ (by exact HA19.out)).mono ?_
  rintro e w20 ⟨v, rfl, hsl, hb⟩
  have HA20 := hid (HA19.out.low hb)
  have HB20 := hid (HB19.out.trans (hb.mono (Below.size HB19.out)))
  have hsl2 : Sl w20 1 v 1 (([1] : List Int).map iv) := hsl
  obtain ⟨av, cv, rfl, _⟩ := hsl2.open
  have HS := hid (hsl2.alloc (.cells #[.int .i64 1] 3))
  clear hsl hsl2
  clear HA19 HB19 hb
  go_wp2_with fail
  have HA21 := hid (HA20.out.alloc (.cells #[.int .i64 1] 3))
  have HB21 := hid (HB20.out.alloc (Below.size HB20.out) (.cells #[.int .i64 1] 3))
  clear HA20 HB20
  refine (same_ex _ 1 _ _ [1] _ (by exact HS.out) (by exact Blk.newAt (by simp)) rfl (by omega)).mono ?_
  rintro e w22 ⟨rfl, hb⟩
  have HA22 := hid (HA21.out.low hb)
  have HB22 := hid (HB21.out.trans (hb.mono (Below.size HB21.out)))
  clear HA21 HB21 hb
  go_wp2_with fail
  refine (cuts_ab9 _ _ (by exact HA22.out)).mono ?_
  rintro e w23 ⟨v, rfl, hsl, hb⟩
  have HA23 := hid (HA22.out.low hb)
  have HB23 := hid (HB22.out.trans (hb.mono (Below.size HB22.out)))
  obtain ⟨av, cv, rfl, _⟩ := hsl.open
  clear HA22 HB22 hb
  go_wp2_with fail
  go_ret
  exact ⟨rfl, HB23.out⟩
end Go.Proofs.Ytadnhjloeaddnaa
