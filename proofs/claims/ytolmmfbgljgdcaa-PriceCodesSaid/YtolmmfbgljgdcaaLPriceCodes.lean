/-
  The law PriceCodes: for any four histograms of at most 300 counts and any number, the three costs are those of the reference. No condition.
-/
import Derived.Test.YtolmmfbgljgdcaaPrL
namespace Go.Proofs.Ytolmmfbgljgdcaa
open Go.RowKit Go.Port

set_option maxRecDepth 100000 in
set_option maxHeartbeats 8000000 in
theorem PriceCodes_walk (w : World) (A : Nat → Option Addr) (cp : Nat → Nat) (C : Nat → List Int) (h : FourAt w A cp C) (n : Int) (hn : -9223372036854775808 ≤ n ∧ n ≤ 9223372036854775807) :
    Calls Try.prog 4 #[fourV A cp C, .int .i64 n] w (RetV w (.bool true)) := by
  have HW := hid prworks_any
  have HX0 := hid (Blk.new w [.slice (A 0) (C 0).length (cp 0), .slice (A 1) (C 1).length (cp 1), .slice (A 2) (C 2).length (cp 2), .slice (A 3) (C 3).length (cp 3)] 23)
  have HB0 := hid (below_new w (.cells #[.slice (A 0) (C 0).length (cp 0), .slice (A 1) (C 1).length (cp 1), .slice (A 2) (C 2).length (cp 2), .slice (A 3) (C 3).length (cp 3)] 23))
  have HFw := hid (fun W => prfew_any A cp C W)
  have HF0 := hid (h.low HB0.out)
  unfold fourV at HFw
  unfold fourV
  clear h
  have c0 := HX0.out.cell (k := 0) rfl
  have c1 := HX0.out.cell (k := 1) rfl
  have c2 := HX0.out.cell (k := 2) rfl
  have c3 := HX0.out.cell (k := 3) rfl
  go_enter Try.func4, Try.ntmps4
  go_wp2_with fail
  clear c0 c1 c2 c3
  generalize w.alloc (.cells #[.slice (A 0) (C 0).length (cp 0), .slice (A 1) (C 1).length (cp 1), .slice (A 2) (C 2).length (cp 2), .slice (A 3) (C 3).length (cp 3)] 23) = w0 at *
  refine (HFw.out _).mono ?_
  rintro e w1 ⟨rfl, hb⟩
  have HX1 := hid (HX0.out.below hb HX0.out.lt)
  have HF1 := hid (HF0.out.low hb)
  have HB1 := hid (HB0.out.trans (hb.mono HB0.out.size))
  clear hb HX0 HF0 HB0
  cases hfew : fewB C
  · go_wp2_with (go_at_call 11; refine (HW.out _).mono ?_; rintro e w' ⟨rfl, hb⟩)
    go_ret
    exact ⟨rfl, HB1.out.trans (hb.mono HB1.out.size)⟩
  · have c0 := HX1.out.cell (k := 0) rfl
    have c1 := HX1.out.cell (k := 1) rfl
    have c2 := HX1.out.cell (k := 2) rfl
    have c3 := HX1.out.cell (k := 3) rfl
    go_wp2_with fail
    clear c0 c1 c2 c3 HX1
    by_cases hok : ∀ k, k < 4 → HistOk k (C k)
    rotate_left
    · have HBo := hid (prboth_bad A cp C w1 HF1.out hok)
      unfold fourV at HBo
      refine HBo.out.mono ?_
      rintro e w2 ⟨rfl, hb⟩
      have HB2 := hid (HB1.out.trans (hb.mono HB1.out.size))
      have HB3 := hid (HB2.out.trans ((below_new w2 (.cells #[.slice none 0 0, .slice none 0 0, .slice none 0 0, .slice none 0 0] 29)).mono HB2.out.size))
      clear hb HBo HF1 HFw hok
      go_wp2_with (go_at_call 11; refine (HW.out _).mono ?_; rintro e w' ⟨rfl, hb⟩)
      go_ret
      exact ⟨rfl, HB3.out.trans (hb.mono HB3.out.size)⟩
    have HBo := hid (prboth_ok A cp C w1 HF1.out hok)
    unfold fourV at HBo
    refine HBo.out.mono ?_
    rintro e w2 ⟨M, rfl, hp, hb⟩
    have HB2 := hid (HB1.out.trans (hb.mono HB1.out.size))
    have HBn := hid (below_new w2 (.cells #[.slice (A 0) (C 0).length (cp 0), .slice (A 1) (C 1).length (cp 1), .slice (A 2) (C 2).length (cp 2), .slice (A 3) (C 3).length (cp 3)] 29))
    have HB3 := hid (HB2.out.trans (HBn.out.mono HB2.out.size))
    have HP3 := hid (hp.low HBn.out)
    have HR3 := hid (show RfAt (w2.alloc (.cells #[.slice (A 0) (C 0).length (cp 0), .slice (A 1) (C 1).length (cp 1), .slice (A 2) (C 2).length (cp 2), .slice (A 3) (C 3).length (cp 3)] 29)) A cp C from ⟨(HF1.out.low hb).low HBn.out, hok⟩)
    have HX3 := hid (Blk.new w2 [.slice (A 0) (C 0).length (cp 0), .slice (A 1) (C 1).length (cp 1), .slice (A 2) (C 2).length (cp 2), .slice (A 3) (C 3).length (cp 3)] 29)
    clear hb hp HBo HBn HF1 HFw hok HB2
    obtain ⟨x1, y1, h1⟩ := numV_two (numC C 1 n)
    obtain ⟨x2, y2, h2⟩ := numV_two (numC C 2 n)
    obtain ⟨x3, y3, h3⟩ := numV_two (lenC C n)
    have HL1 := hid (fun W (hW : PrAt W M C) => show Calls Try.prog _ _ W (RetV W (.tuple #[.int .i64 x1, .int .i64 y1])) from h1 ▸ (show Calls Try.prog _ _ W (RetV W (numV (numC C 1 n))) from prll_any W M C hW n))
    have HL2 := hid (fun W (hW : PrAt W M C) => show Calls Try.prog _ _ W (RetV W (.tuple #[.int .i64 x2, .int .i64 y2])) from h2 ▸ (show Calls Try.prog _ _ W (RetV W (numV (numC C 2 n))) from prov_any W M C hW n))
    have HL3 := hid (fun W (hW : PrAt W M C) => show Calls Try.prog _ _ W (RetV W (.tuple #[.int .i64 x3, .int .i64 y3])) from h3 ▸ (show Calls Try.prog _ _ W (RetV W (numV (lenC C n))) from prml_any W M C hW n hn.1 hn.2))
    have HR1 := hid (fun W (hW : RfAt W A cp C) => show Calls Try.prog _ _ W (RetV W (.tuple #[.int .i64 x1, .int .i64 y1])) from h1 ▸ rcount_any A cp C W hW n)
    have HR2 := hid (fun W (hW : RfAt W A cp C) => show Calls Try.prog _ _ W (RetV W (.tuple #[.int .i64 x2, .int .i64 y2])) from h2 ▸ roff_any A cp C W hW n)
    have HRl := hid (fun W (hW : RfAt W A cp C) => show Calls Try.prog _ _ W (RetV W (.tuple #[.int .i64 x3, .int .i64 y3])) from h3 ▸ rlen32_any A cp C W hW n hn.1 hn.2)
    unfold fourV at HR1 HR2 HRl
    clear h1 h2 h3 hn
    go_wp2_with fail
    generalize hw3 : w2.alloc (.cells #[.slice (A 0) (C 0).length (cp 0), .slice (A 1) (C 1).length (cp 1), .slice (A 2) (C 2).length (cp 2), .slice (A 3) (C 3).length (cp 3)] 29) = w3 at *
    clear hw3
    refine (HL1.out _ HP3.out).mono ?_
    rintro e w4 ⟨rfl, hb⟩
    have HB4 := hid (HB3.out.trans (hb.mono HB3.out.size))
    have HX4 := hid (HX3.out.below hb HX3.out.lt)
    have HP4 := hid (HP3.out.low hb)
    have HR4 := hid (HR3.out.low hb)
    clear hb HB3 HX3 HP3 HR3
    go_wp2_with fail
    refine (HL2.out _ HP4.out).mono ?_
    rintro e w5 ⟨rfl, hb⟩
    have HB5 := hid (HB4.out.trans (hb.mono HB4.out.size))
    have HX5 := hid (HX4.out.below hb HX4.out.lt)
    have HP5 := hid (HP4.out.low hb)
    have HR5 := hid (HR4.out.low hb)
    clear hb HB4 HX4 HP4 HR4
    go_wp2_with fail
    refine (HL3.out _ HP5.out).mono ?_
    rintro e w6 ⟨rfl, hb⟩
    have HB6 := hid (HB5.out.trans (hb.mono HB5.out.size))
    have HX6 := hid (HX5.out.below hb HX5.out.lt)
    have HR6 := hid (HR5.out.low hb)
    clear hb HB5 HX5 HR5
    have c0 := HX6.out.cell (k := 0) rfl
    have c1 := HX6.out.cell (k := 1) rfl
    have c2 := HX6.out.cell (k := 2) rfl
    have c3 := HX6.out.cell (k := 3) rfl
    go_wp2_with fail
    clear c0 c1 c2 c3
    refine (HR1.out _ HR6.out).mono ?_
    rintro e w7 ⟨rfl, hb⟩
    have HB7 := hid (HB6.out.trans (hb.mono HB6.out.size))
    have HX7 := hid (HX6.out.below hb HX6.out.lt)
    have HR7 := hid (HR6.out.low hb)
    clear hb HB6 HX6 HR6
    have c0 := HX7.out.cell (k := 0) rfl
    have c1 := HX7.out.cell (k := 1) rfl
    have c2 := HX7.out.cell (k := 2) rfl
    have c3 := HX7.out.cell (k := 3) rfl
    go_wp2_with fail
    clear c0 c1 c2 c3
    refine (HR2.out _ HR7.out).mono ?_
    rintro e w8 ⟨rfl, hb⟩
    have HB8 := hid (HB7.out.trans (hb.mono HB7.out.size))
    have HX8 := hid (HX7.out.below hb HX7.out.lt)
    have HR8 := hid (HR7.out.low hb)
    clear hb HB7 HX7 HR7
    have c0 := HX8.out.cell (k := 0) rfl
    have c1 := HX8.out.cell (k := 1) rfl
    have c2 := HX8.out.cell (k := 2) rfl
    have c3 := HX8.out.cell (k := 3) rfl
    go_wp2_with fail
    clear c0 c1 c2 c3
    refine (HRl.out _ HR8.out).mono ?_
    rintro e w9 ⟨rfl, hb⟩
    have HB9 := hid (HB8.out.trans (hb.mono HB8.out.size))
    clear hb HB8
    go_wp2_with fail
    refine (pris_yes _ _ _).mono ?_
    rintro e w' ⟨rfl, rfl⟩
    go_wp2_with fail
    refine (pris_yes _ _ _).mono ?_
    rintro e w' ⟨rfl, rfl⟩
    go_wp2_with fail
    refine (pris_yes _ _ _).mono ?_
    rintro e w' ⟨rfl, rfl⟩
    go_wp2_with fail
    refine (HW.out _).mono ?_
    rintro e w' ⟨rfl, hb⟩
    go_wp2
    go_ret
    exact ⟨rfl, HB9.out.trans (hb.mono HB9.out.size)⟩
end Go.Proofs.Ytolmmfbgljgdcaa
namespace Go.Proofs.Ytolmmfbgljgdcaa.LPriceCodes
open Go.ChangeShapes Go.WideShapes Go.ChangeAt Go.RowKit Go.Port

set_option maxRecDepth 100000 in
set_option maxHeartbeats 4000000 in
theorem lifted (os : Os) (started : os.Started) (H : Type) (enc : TypeId × Value → H) :
    ReturnsInHanded {} Try.checked os 4 .any (Rows.priceCodesSpec.pre6 enc Try.prog Try.f4 Rows.priceCodesRow.domain false) (Rows.priceCodesSpec.post enc Try.prog Try.f4 false true false false) := by
  refine returnsInHanded_of_change (C := Try.checked) Try.own started (by kernel_rfl) Try.func4
    (ChangeSpec.witness6 (enc := enc) (C := Try.checked) false ⟨#[], #[.agg #[.slice none 0 0, .slice none 0 0, .slice none 0 0, .slice none 0 0], .int .i64 0], []⟩ 8 (by kernel_rfl) (by kernel_rfl) (by kernel_rfl) (by kernel_rfl)) ?_
  intro W base args ds gs before hval0 hW hcnd _
  have hval : ∀ (j : Nat) t v, Try.f4.params[j]? = some t → args[j]? = some v → Value.okWide Try.prog W .any base t v := hval0
  have hW' := hW
  obtain ⟨p, q, hA0, hV, rfl, hfz, hnd⟩ := hW
  have hA : DataW.TrodAll enc Try.prog W 0 (fun _ => true) true Try.f4.params.toList args.toList ds p := hA0
  rw [Try.params4] at hA hval
  obtain ⟨v0, vs0, d0, ds0, p0, q0, hargs, rfl, rfl, h0, r0⟩ := trodAll_cons hA
  obtain ⟨v1, vs1, d1, ds1, p1, q1, rfl, rfl, rfl, h1, r1⟩ := trodAll_cons r0
  obtain ⟨rfl, rfl, rfl⟩ := trodAll_nil r1
  obtain rfl : args = #[v0, v1] := by cases args; simp_all
  obtain ⟨rfl, rfl⟩ := trodVars_none hV
  obtain ⟨A0, cp0, C0, rfl, hF0, wF0⟩ := open_four (hval 0 23 v0 rfl rfl) h0
  obtain ⟨a1, rfl, rfl, rfl, w1⟩ := open_int Try.underlying3 (hval 1 3 v1 rfl rfl) h1
  clear hA0 hval0
  simp only [List.append_nil] at hW'
  refine (PriceCodes_walk W A0 cp0 C0 hF0 a1 (bounds_i64 w1)).mono fun e W' ⟨he, hb⟩ => ?_
  subst he
  exact ⟨_, rfl, law_post Try.kids Try.full Try.underlying4 rfl rfl hW' (by rw [Try.params4]; decide) rfl rfl rfl hb⟩

theorem over : Rows.priceCodesRow.holds Try.pinned (OpenSpec.ofChange Rows.priceCodesSpec) :=
  OpenClaim.holds_of_wide 4 Try.f4 rfl rfl rfl rfl rfl rfl rfl ⟨rfl, rfl, rfl, rfl, rfl⟩ rfl rfl rfl rfl rfl (by kernel_rfl) Try.func4 (by kernel_rfl)
    (of_decide_eq_true (by kernel_rfl)) (by unfold Func.isWrapper; first | (rw [if_pos (by decide +kernel)]; kernel_rfl) | (rw [if_neg (by decide +kernel)]; exact ⟨rfl, rfl⟩))
    (fun os started H enc _ => lifted os started H enc)

/-- The statement. -/
theorem proved : Rows.PriceCodesSaid :=
  over
end Go.Proofs.Ytolmmfbgljgdcaa.LPriceCodes
