/-
  The law PriceSteps: for any four histograms of at most 300 counts, any length and any offset, the cost of a match is that of the reference. No condition.
-/
import Derived.Test.YtolmmfbgljgdcaaPrL
namespace Go.Proofs.Ytolmmfbgljgdcaa
open Go.RowKit Go.Port

set_option maxRecDepth 100000 in
set_option maxHeartbeats 8000000 in
theorem PriceSteps_walk (w : World) (A : Nat → Option Addr) (cp : Nat → Nat) (C : Nat → List Int) (h : FourAt w A cp C) (n : Int) (hn : -9223372036854775808 ≤ n ∧ n ≤ 9223372036854775807) (off : Int) (ho : -9223372036854775808 ≤ off ∧ off ≤ 9223372036854775807) :
    Calls Try.prog 5 #[fourV A cp C, .int .i64 n, .int .i64 off] w (RetV w (.bool true)) := by
  have HW := hid prworks_any
  have HX0 := hid (Blk.new w [.slice (A 0) (C 0).length (cp 0), .slice (A 1) (C 1).length (cp 1), .slice (A 2) (C 2).length (cp 2), .slice (A 3) (C 3).length (cp 3)] 23)
  have HB0 := hid (below_new w (.cells #[.slice (A 0) (C 0).length (cp 0), .slice (A 1) (C 1).length (cp 1), .slice (A 2) (C 2).length (cp 2), .slice (A 3) (C 3).length (cp 3)] 23))
  have HFw := hid (fun W => prfew_any A cp C W)
  have HF0 := hid (h.low HB0.out)
  unfold fourV at HFw
  unfold fourV
  clear h
  have c0 := HX0.out.cell (k := 0) rfl
  have c1 := HX0.out.cell (k := 1) rfl
  have c2 := HX0.out.cell (k := 2) rfl
  have c3 := HX0.out.cell (k := 3) rfl
  go_enter Try.func5, Try.ntmps5
  go_wp2_with fail
  clear c0 c1 c2 c3
  generalize w.alloc (.cells #[.slice (A 0) (C 0).length (cp 0), .slice (A 1) (C 1).length (cp 1), .slice (A 2) (C 2).length (cp 2), .slice (A 3) (C 3).length (cp 3)] 23) = w0 at *
  refine (HFw.out _).mono ?_
  rintro e w1 ⟨rfl, hb⟩
  have HX1 := hid (HX0.out.below hb HX0.out.lt)
  have HF1 := hid (HF0.out.low hb)
  have HB1 := hid (HB0.out.trans (hb.mono HB0.out.size))
  clear hb HX0 HF0 HB0
  cases hfew : fewB C
  · go_wp2_with (go_at_call 11; refine (HW.out _).mono ?_; rintro e w' ⟨rfl, hb⟩)
    go_ret
    exact ⟨rfl, HB1.out.trans (hb.mono HB1.out.size)⟩
  · have c0 := HX1.out.cell (k := 0) rfl
    have c1 := HX1.out.cell (k := 1) rfl
    have c2 := HX1.out.cell (k := 2) rfl
    have c3 := HX1.out.cell (k := 3) rfl
    go_wp2_with fail
    clear c0 c1 c2 c3 HX1
    by_cases hok : ∀ k, k < 4 → HistOk k (C k)
    rotate_left
    · have HBo := hid (prboth_bad A cp C w1 HF1.out hok)
      unfold fourV at HBo
      refine HBo.out.mono ?_
      rintro e w2 ⟨rfl, hb⟩
      have HB2 := hid (HB1.out.trans (hb.mono HB1.out.size))
      have HB3 := hid (HB2.out.trans ((below_new w2 (.cells #[.slice none 0 0, .slice none 0 0, .slice none 0 0, .slice none 0 0] 29)).mono HB2.out.size))
      clear hb HBo HF1 HFw hok
      go_wp2_with (go_at_call 11; refine (HW.out _).mono ?_; rintro e w' ⟨rfl, hb⟩)
      go_ret
      exact ⟨rfl, HB3.out.trans (hb.mono HB3.out.size)⟩
    have HBo := hid (prboth_ok A cp C w1 HF1.out hok)
    unfold fourV at HBo
    refine HBo.out.mono ?_
    rintro e w2 ⟨M, rfl, hp, hb⟩
    have HB2 := hid (HB1.out.trans (hb.mono HB1.out.size))
    have HBn := hid (below_new w2 (.cells #[.slice (A 0) (C 0).length (cp 0), .slice (A 1) (C 1).length (cp 1), .slice (A 2) (C 2).length (cp 2), .slice (A 3) (C 3).length (cp 3)] 29))
    have HB3 := hid (HB2.out.trans (HBn.out.mono HB2.out.size))
    have HP3 := hid (hp.low HBn.out)
    have HR3 := hid (show RfAt (w2.alloc (.cells #[.slice (A 0) (C 0).length (cp 0), .slice (A 1) (C 1).length (cp 1), .slice (A 2) (C 2).length (cp 2), .slice (A 3) (C 3).length (cp 3)] 29)) A cp C from ⟨(HF1.out.low hb).low HBn.out, hok⟩)
    have HX3 := hid (Blk.new w2 [.slice (A 0) (C 0).length (cp 0), .slice (A 1) (C 1).length (cp 1), .slice (A 2) (C 2).length (cp 2), .slice (A 3) (C 3).length (cp 3)] 29)
    clear hb hp HBo HBn HF1 HFw hok HB2
    obtain ⟨x1, y1, h1⟩ := numV_two (stepC C n off)
    have HL1 := hid (fun W (hW : PrAt W M C) => show Calls Try.prog _ _ W (RetV W (.tuple #[.int .i64 x1, .int .i64 y1])) from h1 ▸ (show Calls Try.prog _ _ W (RetV W (numV (stepC C n off))) from prma_any W M C hW n off hn.1 hn.2 ho.1 ho.2))
    have HR1 := hid (fun W (hW : RfAt W A cp C) => show Calls Try.prog _ _ W (RetV W (.tuple #[.int .i64 x1, .int .i64 y1])) from h1 ▸ rstep_any A cp C W hW n off hn.1 hn.2)
    unfold fourV at HR1
    clear h1 hn ho
    go_wp2_with fail
    generalize hw3 : w2.alloc (.cells #[.slice (A 0) (C 0).length (cp 0), .slice (A 1) (C 1).length (cp 1), .slice (A 2) (C 2).length (cp 2), .slice (A 3) (C 3).length (cp 3)] 29) = w3 at *
    clear hw3
    refine (HL1.out _ HP3.out).mono ?_
    rintro e w4 ⟨rfl, hb⟩
    have HB4 := hid (HB3.out.trans (hb.mono HB3.out.size))
    have HX4 := hid (HX3.out.below hb HX3.out.lt)
    have HR4 := hid (HR3.out.low hb)
    clear hb HB3 HX3 HR3
    have c0 := HX4.out.cell (k := 0) rfl
    have c1 := HX4.out.cell (k := 1) rfl
    have c2 := HX4.out.cell (k := 2) rfl
    have c3 := HX4.out.cell (k := 3) rfl
    go_wp2_with fail
    clear c0 c1 c2 c3
    refine (HR1.out _ HR4.out).mono ?_
    rintro e w5 ⟨rfl, hb⟩
    have HB5 := hid (HB4.out.trans (hb.mono HB4.out.size))
    clear hb HB4
    go_wp2_with fail
    refine (pris_yes _ _ _).mono ?_
    rintro e w' ⟨rfl, rfl⟩
    go_wp2_with fail
    refine (HW.out _).mono ?_
    rintro e w' ⟨rfl, hb⟩
    go_wp2
    go_ret
    exact ⟨rfl, HB5.out.trans (hb.mono HB5.out.size)⟩
end Go.Proofs.Ytolmmfbgljgdcaa
namespace Go.Proofs.Ytolmmfbgljgdcaa.LPriceSteps
open Go.ChangeShapes Go.WideShapes Go.ChangeAt Go.RowKit Go.Port

set_option maxRecDepth 100000 in
set_option maxHeartbeats 4000000 in
theorem lifted (os : Os) (started : os.Started) (H : Type) (enc : TypeId × Value → H) :
    ReturnsInHanded {} Try.checked os 5 .any (Rows.priceStepsSpec.pre6 enc Try.prog Try.f5 Rows.priceStepsRow.domain false) (Rows.priceStepsSpec.post enc Try.prog Try.f5 false true false false) := by
  refine returnsInHanded_of_change (C := Try.checked) Try.own started (by kernel_rfl) Try.func5
    (ChangeSpec.witness6 (enc := enc) (C := Try.checked) false ⟨#[], #[.agg #[.slice none 0 0, .slice none 0 0, .slice none 0 0, .slice none 0 0], .int .i64 0, .int .i64 0], []⟩ 8 (by kernel_rfl) (by kernel_rfl) (by kernel_rfl) (by kernel_rfl)) ?_
  intro W base args ds gs before hval0 hW hcnd _
  have hval : ∀ (j : Nat) t v, Try.f5.params[j]? = some t → args[j]? = some v → Value.okWide Try.prog W .any base t v := hval0
  have hW' := hW
  obtain ⟨p, q, hA0, hV, rfl, hfz, hnd⟩ := hW
  have hA : DataW.TrodAll enc Try.prog W 0 (fun _ => true) true Try.f5.params.toList args.toList ds p := hA0
  rw [Try.params5] at hA hval
  obtain ⟨v0, vs0, d0, ds0, p0, q0, hargs, rfl, rfl, h0, r0⟩ := trodAll_cons hA
  obtain ⟨v1, vs1, d1, ds1, p1, q1, rfl, rfl, rfl, h1, r1⟩ := trodAll_cons r0
  obtain ⟨v2, vs2, d2, ds2, p2, q2, rfl, rfl, rfl, h2, r2⟩ := trodAll_cons r1
  obtain ⟨rfl, rfl, rfl⟩ := trodAll_nil r2
  obtain rfl : args = #[v0, v1, v2] := by cases args; simp_all
  obtain ⟨rfl, rfl⟩ := trodVars_none hV
  obtain ⟨A0, cp0, C0, rfl, hF0, wF0⟩ := open_four (hval 0 23 v0 rfl rfl) h0
  obtain ⟨a1, rfl, rfl, rfl, w1⟩ := open_int Try.underlying3 (hval 1 3 v1 rfl rfl) h1
  obtain ⟨a2, rfl, rfl, rfl, w2⟩ := open_int Try.underlying3 (hval 2 3 v2 rfl rfl) h2
  clear hA0 hval0
  simp only [List.append_nil] at hW'
  refine (PriceSteps_walk W A0 cp0 C0 hF0 a1 (bounds_i64 w1) a2 (bounds_i64 w2)).mono fun e W' ⟨he, hb⟩ => ?_
  subst he
  exact ⟨_, rfl, law_post Try.kids Try.full Try.underlying4 rfl rfl hW' (by rw [Try.params5]; decide) rfl rfl rfl hb⟩

theorem over : Rows.priceStepsRow.holds Try.pinned (OpenSpec.ofChange Rows.priceStepsSpec) :=
  OpenClaim.holds_of_wide 5 Try.f5 rfl rfl rfl rfl rfl rfl rfl ⟨rfl, rfl, rfl, rfl, rfl⟩ rfl rfl rfl rfl rfl (by kernel_rfl) Try.func5 (by kernel_rfl)
    (of_decide_eq_true (by kernel_rfl)) (by unfold Func.isWrapper; first | (rw [if_pos (by decide +kernel)]; kernel_rfl) | (rw [if_neg (by decide +kernel)]; exact ⟨rfl, rfl⟩))
    (fun os started H enc _ => lifted os started H enc)

/-- The statement. -/
theorem proved : Rows.PriceStepsSaid :=
  over
end Go.Proofs.Ytolmmfbgljgdcaa.LPriceSteps
