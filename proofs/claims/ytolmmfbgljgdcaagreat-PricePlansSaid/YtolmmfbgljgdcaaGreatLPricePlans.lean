/-
  The law PricePlans: for any four histograms of at most 300 counts, at most 300 bytes and at most 40 sequences, the cost of the plan is that of the reference. No condition.
-/
import Derived.Test.YtolmmfbgljgdcaaGreatPrL
import Derived.Test.YtolmmfbgljgdcaaGreatPrX
import Derived.Test.YtolmmfbgljgdcaaGreatPrY
namespace Go.Proofs.YtolmmfbgljgdcaaGreat
open Go.RowKit Go.Port

set_option maxRecDepth 100000 in
set_option maxHeartbeats 8000000 in
theorem PricePlans_walk (w : World) (A : Nat → Option Addr) (cp : Nat → Nat) (C : Nat → List Int) (h : FourAt w A cp C) (v1 : Value) (bs : List UInt8) (h1 : Rs w 1 v1 bs.length (bs.map bv)) (v2 : Value) (l : List Sq) (h2 : Rs w 3 v2 l.length (l.flatMap lsqc)) (hwf : ∀ s ∈ l, SqI s) :
    Calls Tryz.prog 3 #[fourV A cp C, v1, v2] w (RetV w (.bool true)) := by
  have HW := hid prworks_any
  obtain ⟨ad, c, a, cl, rfl, rfl, hpd⟩ := pd_of h1 h2
  have HWf := hid (show ∀ s ∈ l, (-9223372036854775808 ≤ s.len ∧ s.len ≤ 9223372036854775807) ∧ (-9223372036854775808 ≤ s.off ∧ s.off ≤ 9223372036854775807) from fun s hs => (hwf s hs).2)
  have HPd := hid hpd
  clear h1 h2 hpd hwf
  have HX0 := hid (Blk.new w [.slice (A 0) (C 0).length (cp 0), .slice (A 1) (C 1).length (cp 1), .slice (A 2) (C 2).length (cp 2), .slice (A 3) (C 3).length (cp 3)] 23)
  have HB0 := hid (below_new w (.cells #[.slice (A 0) (C 0).length (cp 0), .slice (A 1) (C 1).length (cp 1), .slice (A 2) (C 2).length (cp 2), .slice (A 3) (C 3).length (cp 3)] 23))
  have HFw := hid (fun W => prfew_any A cp C W)
  have HF0 := hid (h.low HB0.out)
  unfold fourV at HFw
  unfold fourV
  clear h
  have c0 := HX0.out.cell (k := 0) rfl
  have c1 := HX0.out.cell (k := 1) rfl
  have c2 := HX0.out.cell (k := 2) rfl
  have c3 := HX0.out.cell (k := 3) rfl
  go_enter Tryz.func3, Tryz.ntmps3
  go_wp2_with fail
  clear c0 c1 c2 c3
  generalize w.alloc (.cells #[.slice (A 0) (C 0).length (cp 0), .slice (A 1) (C 1).length (cp 1), .slice (A 2) (C 2).length (cp 2), .slice (A 3) (C 3).length (cp 3)] 23) = w0 at *
  refine (HFw.out _).mono ?_
  rintro e w1 ⟨rfl, hb⟩
  have HX1 := hid (HX0.out.below hb HX0.out.lt)
  have HF1 := hid (HF0.out.low hb)
  have HB1 := hid (HB0.out.trans (hb.mono HB0.out.size))
  clear hb HX0 HF0 HB0
  cases hfew : fewB C
  · go_wp2_with (go_at_call 6; refine (HW.out _).mono ?_; rintro e w' ⟨rfl, hb⟩)
    go_ret
    exact ⟨rfl, HB1.out.trans (hb.mono HB1.out.size)⟩
  · by_cases hl1 : (bs.length : Int) ≤ 300
    rotate_left
    · go_wp2_with (go_at_call 6; refine (HW.out _).mono ?_; rintro e w' ⟨rfl, hb⟩)
      go_ret
      exact ⟨rfl, HB1.out.trans (hb.mono HB1.out.size)⟩
    by_cases hlim : (l.length : Int) ≤ 40
    rotate_left
    · go_wp2_with (go_at_call 6; refine (HW.out _).mono ?_; rintro e w' ⟨rfl, hb⟩)
      go_ret
      exact ⟨rfl, HB1.out.trans (hb.mono HB1.out.size)⟩
    have c0 := HX1.out.cell (k := 0) rfl
    have c1 := HX1.out.cell (k := 1) rfl
    have c2 := HX1.out.cell (k := 2) rfl
    have c3 := HX1.out.cell (k := 3) rfl
    go_wp2_with fail
    clear c0 c1 c2 c3 HX1
    by_cases hok : ∀ k, k < 4 → HistOk k (C k)
    rotate_left
    · have HBo := hid (prboth_bad A cp C w1 HF1.out hok)
      unfold fourV at HBo
      refine HBo.out.mono ?_
      rintro e w2 ⟨rfl, hb⟩
      have HB2 := hid (HB1.out.trans (hb.mono HB1.out.size))
      have HB3 := hid (HB2.out.trans ((below_new w2 (.cells #[.slice none 0 0, .slice none 0 0, .slice none 0 0, .slice none 0 0] 30)).mono HB2.out.size))
      clear hb HBo HF1 HFw hok
      go_wp2_with (go_at_call 6; refine (HW.out _).mono ?_; rintro e w' ⟨rfl, hb⟩)
      go_ret
      exact ⟨rfl, HB3.out.trans (hb.mono HB3.out.size)⟩
    have HBo := hid (prboth_ok A cp C w1 HF1.out hok)
    unfold fourV at HBo
    refine HBo.out.mono ?_
    rintro e w2 ⟨M, rfl, hp, hb⟩
    have HB2 := hid (HB1.out.trans (hb.mono HB1.out.size))
    have HBn := hid (below_new w2 (.cells #[.slice (A 0) (C 0).length (cp 0), .slice (A 1) (C 1).length (cp 1), .slice (A 2) (C 2).length (cp 2), .slice (A 3) (C 3).length (cp 3)] 30))
    have HB3 := hid (HB2.out.trans (HBn.out.mono HB2.out.size))
    have HP3 := hid (hp.low HBn.out)
    have HR3 := hid (show RfAt (w2.alloc (.cells #[.slice (A 0) (C 0).length (cp 0), .slice (A 1) (C 1).length (cp 1), .slice (A 2) (C 2).length (cp 2), .slice (A 3) (C 3).length (cp 3)] 30)) A cp C from ⟨(HF1.out.low hb).low HBn.out, hok⟩)
    have HX3 := hid (Blk.new w2 [.slice (A 0) (C 0).length (cp 0), .slice (A 1) (C 1).length (cp 1), .slice (A 2) (C 2).length (cp 2), .slice (A 3) (C 3).length (cp 3)] 30)
    clear hb hp HBo HBn HF1 HFw hok HB2
    have HPd3 := hid ((HPd.out (by omega) (by omega)).low HB3.out)
    obtain ⟨x1, y1, e1⟩ := planV_two C bs l
    have HL1 := hid (fun W (hW : PrAt W M C) (hp : PdAt W a cl l ad c bs) => show Calls Tryz.prog _ _ W (RetV W (.tuple #[.int .i64 x1, .int .i64 y1])) from e1 ▸ prplan_any W M C hW a cl l ad c bs hp HWf.out)
    have HR1 := hid (fun W (hW : RfAt W A cp C) (hp : PdAt W a cl l ad c bs) => show Calls Tryz.prog _ _ W (RetV W (.tuple #[.int .i64 x1, .int .i64 y1])) from e1 ▸ rplan_any A cp C W hW a cl l ad c bs hp HWf.out)
    unfold fourV at HR1
    clear e1 HPd HWf
    go_wp2_with fail
    generalize hw3 : w2.alloc (.cells #[.slice (A 0) (C 0).length (cp 0), .slice (A 1) (C 1).length (cp 1), .slice (A 2) (C 2).length (cp 2), .slice (A 3) (C 3).length (cp 3)] 30) = w3 at *
    clear hw3
    refine (HL1.out _ HP3.out HPd3.out).mono ?_
    rintro e w4 ⟨rfl, hb⟩
    have HB4 := hid (HB3.out.trans (hb.mono HB3.out.size))
    have HX4 := hid (HX3.out.below hb HX3.out.lt)
    have HR4 := hid (HR3.out.low hb)
    have HPd4 := hid (HPd3.out.low hb)
    clear hb HB3 HX3 HR3 HPd3
    have c0 := HX4.out.cell (k := 0) rfl
    have c1 := HX4.out.cell (k := 1) rfl
    have c2 := HX4.out.cell (k := 2) rfl
    have c3 := HX4.out.cell (k := 3) rfl
    go_wp2_with fail
    clear c0 c1 c2 c3
    refine (HR1.out _ HR4.out HPd4.out).mono ?_
    rintro e w5 ⟨rfl, hb⟩
    have HB5 := hid (HB4.out.trans (hb.mono HB4.out.size))
    clear hb HB4
    go_wp2_with fail
    refine (pris_yes _ _ _).mono ?_
    rintro e w' ⟨rfl, rfl⟩
    go_wp2_with fail
    refine (HW.out _).mono ?_
    rintro e w' ⟨rfl, hb⟩
    go_wp2
    go_ret
    exact ⟨rfl, HB5.out.trans (hb.mono HB5.out.size)⟩
end Go.Proofs.YtolmmfbgljgdcaaGreat
namespace Go.Proofs.YtolmmfbgljgdcaaGreat.LPricePlans
open Go.ChangeShapes Go.WideShapes Go.ChangeAt Go.RowKit Go.Port

set_option maxRecDepth 100000 in
set_option maxHeartbeats 4000000 in
theorem lifted (os : Os) (started : os.Started) (H : Type) (enc : TypeId × Value → H) :
    ReturnsInHanded {} Tryz.checked os 3 .any (Rows.pricePlansSpec.pre6 enc Tryz.prog Tryz.f3 Rows.pricePlansRow.domain false) (Rows.pricePlansSpec.post enc Tryz.prog Tryz.f3 false true false false) := by
  refine returnsInHanded_of_change (C := Tryz.checked) Tryz.own started (by kernel_rfl) Tryz.func3
    (ChangeSpec.witness6 (enc := enc) (C := Tryz.checked) false ⟨#[], #[.agg #[.slice none 0 0, .slice none 0 0, .slice none 0 0, .slice none 0 0], .slice none 0 0, .slice none 0 0], []⟩ 8 (by kernel_rfl) (by kernel_rfl) (by kernel_rfl) (by kernel_rfl)) ?_
  intro W base args ds gs before hval0 hW hcnd _
  have hval : ∀ (j : Nat) t v, Tryz.f3.params[j]? = some t → args[j]? = some v → Value.okWide Tryz.prog W .any base t v := hval0
  have hW' := hW
  obtain ⟨p, q, hA0, hV, rfl, hfz, hnd⟩ := hW
  have hA : DataW.TrodAll enc Tryz.prog W 0 (fun _ => true) true Tryz.f3.params.toList args.toList ds p := hA0
  rw [Tryz.params3] at hA hval
  obtain ⟨v0, vs0, d0, ds0, p0, q0, hargs, rfl, rfl, h0, r0⟩ := trodAll_cons hA
  obtain ⟨v1, vs1, d1, ds1, p1, q1, rfl, rfl, rfl, h1, r1⟩ := trodAll_cons r0
  obtain ⟨v2, vs2, d2, ds2, p2, q2, rfl, rfl, rfl, h2, r2⟩ := trodAll_cons r1
  obtain ⟨rfl, rfl, rfl⟩ := trodAll_nil r2
  obtain rfl : args = #[v0, v1, v2] := by cases args; simp_all
  obtain ⟨rfl, rfl⟩ := trodVars_none hV
  obtain ⟨A0, cp0, C0, rfl, hF0, wF0⟩ := open_four (hval 0 23 v0 rfl rfl) h0
  obtain ⟨l1, hl1, wl1⟩ := open_rowV Tryz.underlying24 Tryz.underlying5 (by kernel_rfl) (hval 1 24 v1 rfl rfl) h1
  obtain ⟨bs1, hbs1, hn1⟩ := bytes_of wl1
  rw [hbs1, ← hn1] at hl1
  obtain ⟨l2, hl2, wl2⟩ := open_seqs (hval 2 25 v2 rfl rfl) h2
  clear hA0 hval0
  simp only [List.append_nil] at hW'
  refine (PricePlans_walk W A0 cp0 C0 hF0 v1 bs1 hl1 v2 l2 hl2 wl2).mono fun e W' ⟨he, hb⟩ => ?_
  subst he
  exact ⟨_, rfl, law_post Tryz.kids Tryz.full Tryz.underlying4 rfl rfl hW' (by rw [Tryz.params3]; decide) rfl rfl rfl hb⟩

theorem over : Rows.pricePlansRow.holds Tryz.pinned (OpenSpec.ofChange Rows.pricePlansSpec) :=
  OpenClaim.holds_of_wide 3 Tryz.f3 rfl rfl rfl rfl rfl rfl rfl ⟨rfl, rfl, rfl, rfl, rfl⟩ rfl rfl rfl rfl rfl (by kernel_rfl) Tryz.func3 (by kernel_rfl)
    (of_decide_eq_true (by kernel_rfl)) (by unfold Func.isWrapper; first | (rw [if_pos (by decide +kernel)]; kernel_rfl) | (rw [if_neg (by decide +kernel)]; exact ⟨rfl, rfl⟩))
    (fun os started H enc _ => lifted os started H enc)

/-- The statement. -/
theorem proved : Rows.PricePlansSaid :=
  over
end Go.Proofs.YtolmmfbgljgdcaaGreat.LPricePlans
