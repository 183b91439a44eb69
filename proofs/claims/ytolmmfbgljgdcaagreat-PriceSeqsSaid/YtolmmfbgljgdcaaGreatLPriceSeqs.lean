/-
  The law PriceSeqs: for any four histograms of at most 300 counts, any repeated offsets and any sequence, the cost of the codes and the repeated offsets behind it are those of the reference. No condition.
-/
import Derived.Test.YtolmmfbgljgdcaaGreatPrL
import Derived.Test.YtolmmfbgljgdcaaGreatRpG
namespace Go.Proofs.YtolmmfbgljgdcaaGreat
open Go.RowKit Go.Port

theorem preq3 (a b c : Int) (w : World) : (binOp .eql 40 (.agg #[.int .i64 a, .int .i64 b, .int .i64 c]) (.agg #[.int .i64 a, .int .i64 b, .int .i64 c])).run Tryz.prog w = .ok (.bool true) w := by
  have h1 : (Op.equalIn 10000 40 (.agg #[.int .i64 a, .int .i64 b, .int .i64 c]) (.agg #[.int .i64 a, .int .i64 b, .int .i64 c])).run Tryz.prog w = .ok true w := by
    have h := Tryz.underlying40
    have h3 := Tryz.underlying3
    have hr : List.range' 0 3 = [0, 1, 2] := rfl
    unfold Op.equalIn
    simp [run_underlying h, go_sem, hr, isAgg, run_underlying h3, Result.andThen]
  have h2 : (Op.equal 40 (.agg #[.int .i64 a, .int .i64 b, .int .i64 c]) (.agg #[.int .i64 a, .int .i64 b, .int .i64 c])).run Tryz.prog w = .ok true w := h1
  simp [binOp, go_sem, h2]
set_option maxRecDepth 100000 in
set_option maxHeartbeats 8000000 in
theorem PriceSeqs_walk (w : World) (A : Nat → Option Addr) (cp : Nat → Nat) (C : Nat → List Int) (h : FourAt w A cp C) (r0 r1 r2 : Int) (s0 s1 s2 : Int) (hlen : -9223372036854775808 ≤ s1 ∧ s1 ≤ 9223372036854775807) :
    Calls Tryz.prog 4 #[fourV A cp C, .agg #[.int .i64 r0, .int .i64 r1, .int .i64 r2], .agg #[.int .i64 s0, .int .i64 s1, .int .i64 s2]] w (RetV w (.bool true)) := by
  have HW := hid prworks_any
  have HX0 := hid (show Blk (((w.alloc (.cells #[.slice (A 0) (C 0).length (cp 0), .slice (A 1) (C 1).length (cp 1), .slice (A 2) (C 2).length (cp 2), .slice (A 3) (C 3).length (cp 3)] 23)).alloc (.cells #[.int .i64 r0, .int .i64 r1, .int .i64 r2] 40)).alloc (.cells #[.int .i64 s0, .int .i64 s1, .int .i64 s2] 42)) w.heap.size [.slice (A 0) (C 0).length (cp 0), .slice (A 1) (C 1).length (cp 1), .slice (A 2) (C 2).length (cp 2), .slice (A 3) (C 3).length (cp 3)] 23 from ((Blk.newAt rfl).alloc _).alloc _)
  have HRr0 := hid (show Blk (((w.alloc (.cells #[.slice (A 0) (C 0).length (cp 0), .slice (A 1) (C 1).length (cp 1), .slice (A 2) (C 2).length (cp 2), .slice (A 3) (C 3).length (cp 3)] 23)).alloc (.cells #[.int .i64 r0, .int .i64 r1, .int .i64 r2] 40)).alloc (.cells #[.int .i64 s0, .int .i64 s1, .int .i64 s2] 42)) (w.heap.size + 1) [.int .i64 r0, .int .i64 r1, .int .i64 r2] 40 from (Blk.newAt (by simp)).alloc _)
  have HSs0 := hid (show Blk (((w.alloc (.cells #[.slice (A 0) (C 0).length (cp 0), .slice (A 1) (C 1).length (cp 1), .slice (A 2) (C 2).length (cp 2), .slice (A 3) (C 3).length (cp 3)] 23)).alloc (.cells #[.int .i64 r0, .int .i64 r1, .int .i64 r2] 40)).alloc (.cells #[.int .i64 s0, .int .i64 s1, .int .i64 s2] 42)) (w.heap.size + 1 + 1) [.int .i64 s0, .int .i64 s1, .int .i64 s2] 42 from Blk.newAt (by simp))
  have HB0 := hid (show Below w.heap.size w (((w.alloc (.cells #[.slice (A 0) (C 0).length (cp 0), .slice (A 1) (C 1).length (cp 1), .slice (A 2) (C 2).length (cp 2), .slice (A 3) (C 3).length (cp 3)] 23)).alloc (.cells #[.int .i64 r0, .int .i64 r1, .int .i64 r2] 40)).alloc (.cells #[.int .i64 s0, .int .i64 s1, .int .i64 s2] 42)) from ((below_new w _).alloc (by simp) _).alloc (by simp; omega) _)
  have HFw := hid (fun W => prfew_any A cp C W)
  have HF0 := hid (h.low HB0.out)
  unfold fourV at HFw
  unfold fourV
  clear h
  have c0 := HX0.out.cell (k := 0) rfl
  have c1 := HX0.out.cell (k := 1) rfl
  have c2 := HX0.out.cell (k := 2) rfl
  have c3 := HX0.out.cell (k := 3) rfl
  go_enter Tryz.func4, Tryz.ntmps4
  go_wp2_with fail
  clear c0 c1 c2 c3
  generalize ((w.alloc (.cells #[.slice (A 0) (C 0).length (cp 0), .slice (A 1) (C 1).length (cp 1), .slice (A 2) (C 2).length (cp 2), .slice (A 3) (C 3).length (cp 3)] 23)).alloc (.cells #[.int .i64 r0, .int .i64 r1, .int .i64 r2] 40)).alloc (.cells #[.int .i64 s0, .int .i64 s1, .int .i64 s2] 42) = w0 at *
  refine (HFw.out _).mono ?_
  rintro e w1 ⟨rfl, hb⟩
  have HX1 := hid (HX0.out.below hb HX0.out.lt)
  have HRr1 := hid (HRr0.out.below hb HRr0.out.lt)
  have HSs1 := hid (HSs0.out.below hb HSs0.out.lt)
  have HF1 := hid (HF0.out.low hb)
  have HB1 := hid (HB0.out.trans (hb.mono HB0.out.size))
  clear hb HX0 HF0 HB0 HRr0 HSs0
  cases hfew : fewB C
  · go_wp2_with (go_at_call 6; refine (HW.out _).mono ?_; rintro e w' ⟨rfl, hb⟩)
    go_ret
    exact ⟨rfl, HB1.out.trans (hb.mono HB1.out.size)⟩
  · have c0 := HX1.out.cell (k := 0) rfl
    have c1 := HX1.out.cell (k := 1) rfl
    have c2 := HX1.out.cell (k := 2) rfl
    have c3 := HX1.out.cell (k := 3) rfl
    go_wp2_with fail
    clear c0 c1 c2 c3 HX1
    by_cases hok : ∀ k, k < 4 → HistOk k (C k)
    rotate_left
    · have HBo := hid (prboth_bad A cp C w1 HF1.out hok)
      unfold fourV at HBo
      refine HBo.out.mono ?_
      rintro e w2 ⟨rfl, hb⟩
      have HB2 := hid (HB1.out.trans (hb.mono HB1.out.size))
      have HB3 := hid (HB2.out.trans ((below_new w2 (.cells #[.slice none 0 0, .slice none 0 0, .slice none 0 0, .slice none 0 0] 30)).mono HB2.out.size))
      clear hb HBo HF1 HFw hok
      go_wp2_with (go_at_call 6; refine (HW.out _).mono ?_; rintro e w' ⟨rfl, hb⟩)
      go_ret
      exact ⟨rfl, HB3.out.trans (hb.mono HB3.out.size)⟩
    have HBo := hid (prboth_ok A cp C w1 HF1.out hok)
    unfold fourV at HBo
    refine HBo.out.mono ?_
    rintro e w2 ⟨M, rfl, hp, hb⟩
    have HB2 := hid (HB1.out.trans (hb.mono HB1.out.size))
    have HBn := hid (below_new w2 (.cells #[.slice (A 0) (C 0).length (cp 0), .slice (A 1) (C 1).length (cp 1), .slice (A 2) (C 2).length (cp 2), .slice (A 3) (C 3).length (cp 3)] 30))
    have HB3 := hid (HB2.out.trans (HBn.out.mono HB2.out.size))
    have HP3 := hid (hp.low HBn.out)
    have HR3 := hid (show RfAt (w2.alloc (.cells #[.slice (A 0) (C 0).length (cp 0), .slice (A 1) (C 1).length (cp 1), .slice (A 2) (C 2).length (cp 2), .slice (A 3) (C 3).length (cp 3)] 30)) A cp C from ⟨(HF1.out.low hb).low HBn.out, hok⟩)
    have HRr3 := hid ((HRr1.out.below hb HRr1.out.lt).below HBn.out (Nat.lt_of_lt_of_le HRr1.out.lt hb.size))
    have HSs3 := hid ((HSs1.out.below hb HSs1.out.lt).below HBn.out (Nat.lt_of_lt_of_le HSs1.out.lt hb.size))
    have HX3 := hid (Blk.new w2 [.slice (A 0) (C 0).length (cp 0), .slice (A 1) (C 1).length (cp 1), .slice (A 2) (C 2).length (cp 2), .slice (A 3) (C 3).length (cp 3)] 30)
    clear hb hp HBo HBn HF1 HFw hok HB2
    obtain ⟨x1, n0, n1, n2, y1, h1⟩ := seqV_two C r0 r1 r2 s0 s1 s2
    have HL1 := hid (fun W (hW : PrAt W M C) => show Calls Tryz.prog _ _ W (RetV W (.tuple #[.int .i64 x1, .agg #[.int .i64 n0, .int .i64 n1, .int .i64 n2], .int .i64 y1])) from h1 ▸ prseq_any r0 r1 r2 s0 s1 s2 W M C hW hlen)
    have HR1 := hid (fun W (hW : RfAt W A cp C) => show Calls Tryz.prog _ _ W (RetV W (.tuple #[.int .i64 x1, .agg #[.int .i64 n0, .int .i64 n1, .int .i64 n2], .int .i64 y1])) from h1 ▸ rseq_any r0 r1 r2 s0 s1 s2 A cp C W hW hlen)
    unfold fourV at HR1
    clear h1 hlen
    have g0 := HRr3.out.cell (k := 0) rfl
    have k0 := HSs3.out.cell (k := 0) rfl
    have g1 := HRr3.out.cell (k := 1) rfl
    have k1 := HSs3.out.cell (k := 1) rfl
    have g2 := HRr3.out.cell (k := 2) rfl
    have k2 := HSs3.out.cell (k := 2) rfl
    go_wp2_with fail
    generalize hw3 : w2.alloc (.cells #[.slice (A 0) (C 0).length (cp 0), .slice (A 1) (C 1).length (cp 1), .slice (A 2) (C 2).length (cp 2), .slice (A 3) (C 3).length (cp 3)] 30) = w3 at *
    clear hw3
    clear g0 g1 g2 k0 k1 k2
    refine (HL1.out _ HP3.out).mono ?_
    rintro e w4 ⟨rfl, hb⟩
    have hbn := hb.trans ((below_new w4 (.cells #[.int .i64 n0, .int .i64 n1, .int .i64 n2] 40)).mono hb.size)
    have HB5 := hid (HB3.out.trans (hbn.mono HB3.out.size))
    have HX5 := hid (HX3.out.below hbn HX3.out.lt)
    have HRr5 := hid (HRr3.out.below hbn HRr3.out.lt)
    have HSs5 := hid (HSs3.out.below hbn HSs3.out.lt)
    have HR5 := hid (HR3.out.low hbn)
    have HN5 := hid (Blk.new w4 [.int .i64 n0, .int .i64 n1, .int .i64 n2] 40)
    clear hb hbn HB3 HX3 HRr3 HSs3 HR3 HP3 HL1
    have c0 := HX5.out.cell (k := 0) rfl
    have c1 := HX5.out.cell (k := 1) rfl
    have c2 := HX5.out.cell (k := 2) rfl
    have c3 := HX5.out.cell (k := 3) rfl
    have g0 := HRr5.out.cell (k := 0) rfl
    have k0 := HSs5.out.cell (k := 0) rfl
    have g1 := HRr5.out.cell (k := 1) rfl
    have k1 := HSs5.out.cell (k := 1) rfl
    have g2 := HRr5.out.cell (k := 2) rfl
    have k2 := HSs5.out.cell (k := 2) rfl
    go_wp2_with fail
    clear c0 c1 c2 c3 g0 g1 g2 k0 k1 k2
    generalize w4.alloc (.cells #[.int .i64 n0, .int .i64 n1, .int .i64 n2] 40) = w5 at *
    generalize w4.heap.size = q4 at *
    refine (HR1.out _ HR5.out).mono ?_
    rintro e w6 ⟨rfl, hb⟩
    have hbn := hb.trans ((below_new w6 (.cells #[.int .i64 n0, .int .i64 n1, .int .i64 n2] 40)).mono hb.size)
    have HB7 := hid (HB5.out.trans (hbn.mono HB5.out.size))
    have HN7 := hid (HN5.out.below hbn HN5.out.lt)
    have HO7 := hid (Blk.new w6 [.int .i64 n0, .int .i64 n1, .int .i64 n2] 40)
    have hbs := hb.size
    clear hb hbn HB5 HX5 HRr5 HSs5 HR5 HN5 HR1
    go_upto_region 8 with fail
    generalize w6.alloc (.cells #[.int .i64 n0, .int .i64 n1, .int .i64 n2] 40) = w7 at *
    generalize w6.heap.size = q6 at *
    have g0 := HN7.out.cell (k := 0) rfl
    have k0 := HO7.out.cell (k := 0) rfl
    have g1 := HN7.out.cell (k := 1) rfl
    have k1 := HO7.out.cell (k := 1) rfl
    have g2 := HN7.out.cell (k := 2) rfl
    have k2 := HO7.out.cell (k := 2) rfl
    have heq := preq3 n0 n1 n2
    go_wp2_with (go_at_call 10; refine (pris_yes _ _ _).mono ?_; rintro e w' ⟨rfl, rfl⟩)
    refine (HW.out _).mono ?_
    rintro e w' ⟨rfl, hb⟩
    go_wp2
    go_ret
    exact ⟨rfl, HB7.out.trans (hb.mono HB7.out.size)⟩
end Go.Proofs.YtolmmfbgljgdcaaGreat
namespace Go.Proofs.YtolmmfbgljgdcaaGreat.LPriceSeqs
open Go.ChangeShapes Go.WideShapes Go.ChangeAt Go.RowKit Go.Port

set_option maxRecDepth 100000 in
set_option maxHeartbeats 4000000 in
theorem lifted (os : Os) (started : os.Started) (H : Type) (enc : TypeId × Value → H) :
    ReturnsInHanded {} Tryz.checked os 4 .any (Rows.priceSeqsSpec.pre6 enc Tryz.prog Tryz.f4 Rows.priceSeqsRow.domain false) (Rows.priceSeqsSpec.post enc Tryz.prog Tryz.f4 false true false false) := by
  refine returnsInHanded_of_change (C := Tryz.checked) Tryz.own started (by kernel_rfl) Tryz.func4
    (ChangeSpec.witness6 (enc := enc) (C := Tryz.checked) false ⟨#[], #[.agg #[.slice none 0 0, .slice none 0 0, .slice none 0 0, .slice none 0 0], .agg #[.int .i64 0, .int .i64 0, .int .i64 0], .agg #[.int .i64 0, .int .i64 0, .int .i64 0]], []⟩ 8 (by kernel_rfl) (by kernel_rfl) (by kernel_rfl) (by kernel_rfl)) ?_
  intro W base args ds gs before hval0 hW hcnd _
  have hval : ∀ (j : Nat) t v, Tryz.f4.params[j]? = some t → args[j]? = some v → Value.okWide Tryz.prog W .any base t v := hval0
  have hW' := hW
  obtain ⟨p, q, hA0, hV, rfl, hfz, hnd⟩ := hW
  have hA : DataW.TrodAll enc Tryz.prog W 0 (fun _ => true) true Tryz.f4.params.toList args.toList ds p := hA0
  rw [Tryz.params4] at hA hval
  obtain ⟨v0, vs0, d0, ds0, p0, q0, hargs, rfl, rfl, h0, r0⟩ := trodAll_cons hA
  obtain ⟨v1, vs1, d1, ds1, p1, q1, rfl, rfl, rfl, h1, r1⟩ := trodAll_cons r0
  obtain ⟨v2, vs2, d2, ds2, p2, q2, rfl, rfl, rfl, h2, r2⟩ := trodAll_cons r1
  obtain ⟨rfl, rfl, rfl⟩ := trodAll_nil r2
  obtain rfl : args = #[v0, v1, v2] := by cases args; simp_all
  obtain ⟨rfl, rfl⟩ := trodVars_none hV
  obtain ⟨A0, cp0, C0, rfl, hF0, wF0⟩ := open_four (hval 0 23 v0 rfl rfl) h0
  obtain ⟨x1, y1, z1, rfl⟩ := open_three (hval 1 40 v1 rfl rfl) h1
  obtain ⟨x2, y2, z2, rfl, wx2, wy2, wz2⟩ := open_seq (hval 2 42 v2 rfl rfl) h2
  clear hA0 hval0
  simp only [List.append_nil] at hW'
  refine (PriceSeqs_walk W A0 cp0 C0 hF0 x1 y1 z1 x2 y2 z2 wy2).mono fun e W' ⟨he, hb⟩ => ?_
  subst he
  exact ⟨_, rfl, law_post Tryz.kids Tryz.full Tryz.underlying4 rfl rfl hW' (by rw [Tryz.params4]; decide) rfl rfl rfl hb⟩

theorem over : Rows.priceSeqsRow.holds Tryz.pinned (OpenSpec.ofChange Rows.priceSeqsSpec) :=
  OpenClaim.holds_of_wide 4 Tryz.f4 rfl rfl rfl rfl rfl rfl rfl ⟨rfl, rfl, rfl, rfl, rfl⟩ rfl rfl rfl rfl rfl (by kernel_rfl) Tryz.func4 (by kernel_rfl)
    (of_decide_eq_true (by kernel_rfl)) (by unfold Func.isWrapper; first | (rw [if_pos (by decide +kernel)]; kernel_rfl) | (rw [if_neg (by decide +kernel)]; exact ⟨rfl, rfl⟩))
    (fun os started H enc _ => lifted os started H enc)

/-- The statement. -/
theorem proved : Rows.PriceSeqsSaid :=
  over
end Go.Proofs.YtolmmfbgljgdcaaGreat.LPriceSeqs
