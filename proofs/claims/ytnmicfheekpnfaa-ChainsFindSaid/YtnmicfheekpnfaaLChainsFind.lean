/-
  The law ChainsFind: for at most 150 bytes each of history and data, any window and depth, Find answers as the reference at every position. No condition.
-/
import Derived.Test.YtnmicfheekpnfaaCk
import Derived.Test.YtnmicfheekpnfaaCf
namespace Go.Proofs.Ytnmicfheekpnfaa
open Go.RowKit Go.Port

set_option maxRecDepth 100000 in
set_option maxHeartbeats 4000000 in
theorem ChainsFind_walk (w : World) (v1 : Value) (A : List UInt8) (h1 : Rs w 1 v1 A.length (A.map bv)) (v2 : Value) (D : List UInt8) (h2 : Rs w 1 v2 D.length (D.map bv)) (W dep : Int) :
    Calls Try.prog 3 #[v1, v2, .int .i64 W, .int .i64 dep] w (RetV w (.bool true)) := by
  have HW := hid works_any
  have HM := hid (fun hA hD => made_any v1 v2 A D W dep w hA hD h1 h2)
  obtain ⟨_, a1, k1, rfl, hk1, _, hn1, hcell1⟩ := h1
  obtain ⟨_, a2, k2, rfl, hk2, _, hn2, hcell2⟩ := h2
  clear hcell1 hcell2 hn1 hn2 hk1 hk2
  generalize hbs : A ++ D = bs at *
  by_cases hlA : 150 < (A.length : Int)
  · clear HM hbs
    go_enter Try.func3, Try.ntmps3
    go_wp2_with (go_at_call 10; refine (HW.out _).mono ?_; rintro e w' ⟨rfl, hb⟩)
    go_ret
    exact ⟨rfl, hb⟩
  by_cases hlD : 150 < (D.length : Int)
  · clear HM hbs
    go_enter Try.func3, Try.ntmps3
    go_wp2_with (go_at_call 10; refine (HW.out _).mono ?_; rintro e w' ⟨rfl, hb⟩)
    go_ret
    exact ⟨rfl, hb⟩
  have HM := hid (HM.out (by omega) (by omega))
  go_enter Try.func3, Try.ntmps3
  go_wp2_with fail
  refine HM.out.mono ?_
  rintro e w1 (⟨rfl, hb⟩ | ⟨hm, F, a, c, rfl, hF, hC, hac, hb⟩)
  · have HB := hid (hb.alloc hb.size (.cells #[.slice none 0 0, .int .i64 0, .int .i64 0, .int .i64 0] 26))
    unfold fdv
    clear hb HM hbs
    go_wp2_with (go_at_call 10; refine (HW.out _).mono ?_; rintro e w' ⟨rfl, hb⟩)
    go_ret
    exact ⟨rfl, HB.out.trans (hb.mono HB.out.size)⟩
  · have hk := finderOk_bounds hm.hk
    have hA : (A.length : Int) ≤ 150 := by omega
    have hD : (D.length : Int) ≤ 150 := by omega
    have hlen : bs.length = A.length + D.length := by rw [← hbs, List.length_append]
    have HFx1 := hid (hF.low (below_new w1 (.cells (fdc a bs.length c A.length W dep).toArray 26)))
    have HBw1 := hid (hb.alloc hb.size (.cells (fdc a bs.length c A.length W dep).toArray 26))
    have HC1 := hid (hC.low (below_new w1 (.cells (fdc a bs.length c A.length W dep).toArray 26)))
    have HX1 := hid (Blk.new w1 (fdc a bs.length c A.length W dep) 26)
    have hb1' := Below.refl (w1.alloc (.cells (fdc a bs.length c A.length W dep).toArray 26)).heap.size (w1.alloc (.cells (fdc a bs.length c A.length W dep).toArray 26))
    clear hF hC hb HM hm
    unfold fdc at HFx1 HBw1 HC1 HX1 hb1'
    unfold fdv
    have hX1lt := HX1.out.lt
    have HFi := hid (fun p W' hF' => cfind_any bs A.length W dep F p W' hF')
    have HRf := hid (fun p W' (h1 : -1000000 ≤ p ∧ p ≤ 1000000) (h : CellsAt W' a (bs.map bv)) => rfind_any bs a c A.length W dep p W' (by omega) hac (by omega) hk.1 hk.2 h1 h)
    have HX1 := hid HX1.out
    clear hk hlen hac hbs hA
    go_upto_region 6 with fail
    generalize w1.alloc (.cells #[.slice a bs.length c, .int .i64 (A.length : Int), .int .i64 W, .int .i64 dep] 26) = w2 at *
    go_wp2_with fail
    go_loopw [12] (fun i wr => ∃ j : Nat, j ≤ D.length + 3 ∧ i = .int .i64 ((j : Int) - 1) ∧ Below w2.heap.size w2 wr) (fun i _ => D.length + 3 - (intOf i + 1).toNat)
    case atStart => exact ⟨0, Nat.zero_le _, rfl, hb1'⟩
    case round =>
      obtain ⟨j, hj, rfl, hBr⟩ := hrel
      have HBr := hid hBr
      have HF3 := hid (HFx1.out.low hBr)
      have HC3 := hid (HC1.out.low hBr)
      have HX3 := hid (HX1.out.below hBr hX1lt)
      clear hBr
      by_cases hlt : j < D.length + 3
      · have hle : (j : Int) - 1 ≤ (D.length : Int) + 1 := by omega
        have hjb : -1000000 ≤ (j : Int) - 1 ∧ (j : Int) - 1 ≤ 1000000 := by omega
        have HFj := hid (HFi.out ((j : Int) - 1))
        have HRj := hid (fun W' h => HRf.out ((j : Int) - 1) W' hjb h)
        obtain ⟨s, hs⟩ : ∃ s, (findS bs A.length W dep ((j : Int) - 1)).getD Sq.zero = s := ⟨_, rfl⟩
        rw [hs] at HFj HRj
        clear hs
        generalize (findS bs A.length W dep ((j : Int) - 1)).isSome = is at *
        obtain ⟨sl, sn, so⟩ := s
        unfold sqv at HFj HRj
        dsimp only at HFj HRj
        go_wp2_with fail
        refine (HFj.out _ HF3.out).mono ?_
        rintro e w4 ⟨rfl, hb⟩
        have hbn := below_new w4 (.cells #[.int .i64 sl, .int .i64 sn, .int .i64 so] 30)
        have hb4 := hb.alloc hb.size (.cells #[.int .i64 sl, .int .i64 sn, .int .i64 so] 30)
        have HS4 := hid (Blk.new w4 [.int .i64 sl, .int .i64 sn, .int .i64 so] 30)
        have HB4 := hid (HBr.out.trans (hb4.mono HBr.out.size))
        have HC4 := hid (HC3.out.low hb4)
        have HX4 := hid (HX3.out.below hb4 HX3.out.lt)
        have c0 := HX4.out.cell (k := 0) rfl
        have c1 := HX4.out.cell (k := 1) rfl
        have c2 := HX4.out.cell (k := 2) rfl
        have c3 := HX4.out.cell (k := 3) rfl
        clear hb hbn hb4 HBr HF3 HC3 HX3
        go_wp2_with fail
        clear c0 c1 c2 c3
        refine (HRj.out _ HC4.out).mono ?_
        rintro e w5 ⟨rfl, hb⟩
        have hb5 := hb.alloc hb.size (.cells #[.int .i64 sl, .int .i64 sn, .int .i64 so] 30)
        have HB5 := hid (HB4.out.trans (hb5.mono HB4.out.size))
        have hS5 := HS4.out.below hb5 HS4.out.lt
        have hT5 := Blk.new w5 [.int .i64 sl, .int .i64 sn, .int .i64 so] 30
        have c0 := hS5.cell (k := 0) rfl
        have c1 := hS5.cell (k := 1) rfl
        have c2 := hS5.cell (k := 2) rfl
        have d0 := hT5.cell (k := 0) rfl
        have d1 := hT5.cell (k := 1) rfl
        have d2 := hT5.cell (k := 2) rfl
        clear hb hb5 HB4 HC4 HX4 hS5 hT5 HS4
        have hw9 : IntKind.i64.wrap ((j : Int) - 1 + 1) = (j : Int) - 1 + 1 := by rw [IntKind.wrap_i64]; omega
        go_wp2_with fail
        go_roundw
        case rel => exact ⟨j + 1, hlt, by go_num, HB5.out⟩
        case measure => simp [intOf]; omega
      · obtain rfl : j = D.length + 3 := by omega
        have hlt2 : ¬ (((D.length + 3 : Nat) : Int) - 1 ≤ (D.length : Int) + 1) := by omega
        go_wp2_with fail
        refine (HW.out _).mono ?_
        rintro e w5 ⟨rfl, hb⟩
        go_wp2
        go_ret
        exact ⟨rfl, HBw1.out.trans ((HBr.out.trans (hb.mono HBr.out.size)).mono HBw1.out.size)⟩
end Go.Proofs.Ytnmicfheekpnfaa
namespace Go.Proofs.Ytnmicfheekpnfaa.LChainsFind
open Go.ChangeShapes Go.WideShapes Go.ChangeAt Go.RowKit Go.Port

set_option maxRecDepth 100000 in
theorem lifted (os : Os) (started : os.Started) (H : Type) (enc : TypeId × Value → H) :
    ReturnsInHanded {} Try.checked os 3 .any (Rows.chainsFindSpec.pre6 enc Try.prog Try.f3 Rows.chainsFindRow.domain false) (Rows.chainsFindSpec.post enc Try.prog Try.f3 false true false false) := by
  refine returnsInHanded_of_change (C := Try.checked) Try.own started (by kernel_rfl) Try.func3
    (ChangeSpec.witness6 (enc := enc) (C := Try.checked) false ⟨#[], #[.slice none 0 0, .slice none 0 0, .int .i64 0, .int .i64 0], []⟩ 8 (by kernel_rfl) (by kernel_rfl) (by kernel_rfl) (by kernel_rfl)) ?_
  intro W base args ds gs before hval0 hW hcnd _
  have hval : ∀ (j : Nat) t v, Try.f3.params[j]? = some t → args[j]? = some v → Value.okWide Try.prog W .any base t v := hval0
  have hW' := hW
  obtain ⟨p, q, hA0, hV, rfl, hfz, hnd⟩ := hW
  have hA : DataW.TrodAll enc Try.prog W 0 (fun _ => true) true Try.f3.params.toList args.toList ds p := hA0
  rw [Try.params3] at hA hval
  obtain ⟨v0, vs0, d0, ds0, p0, q0, hargs, rfl, rfl, h0, r0⟩ := trodAll_cons hA
  obtain ⟨v1, vs1, d1, ds1, p1, q1, rfl, rfl, rfl, h1, r1⟩ := trodAll_cons r0
  obtain ⟨v2, vs2, d2, ds2, p2, q2, rfl, rfl, rfl, h2, r2⟩ := trodAll_cons r1
  obtain ⟨v3, vs3, d3, ds3, p3, q3, rfl, rfl, rfl, h3, r3⟩ := trodAll_cons r2
  obtain ⟨rfl, rfl, rfl⟩ := trodAll_nil r3
  obtain rfl : args = #[v0, v1, v2, v3] := by cases args; simp_all
  obtain ⟨rfl, rfl⟩ := trodVars_none hV
  obtain ⟨l0, hl0, wl0⟩ := open_rowV Try.underlying22 Try.underlying5 (by kernel_rfl) (hval 0 22 v0 rfl rfl) h0
  obtain ⟨bs0, hbs0, hn0⟩ := bytes_of wl0
  rw [hbs0, ← hn0] at hl0
  obtain ⟨l1, hl1, wl1⟩ := open_rowV Try.underlying22 Try.underlying5 (by kernel_rfl) (hval 1 22 v1 rfl rfl) h1
  obtain ⟨bs1, hbs1, hn1⟩ := bytes_of wl1
  rw [hbs1, ← hn1] at hl1
  obtain ⟨a2, rfl, rfl, rfl, w2⟩ := open_int Try.underlying3 (hval 2 3 v2 rfl rfl) h2
  obtain ⟨a3, rfl, rfl, rfl, w3⟩ := open_int Try.underlying3 (hval 3 3 v3 rfl rfl) h3
  clear hA0 hval0
  simp only [List.append_nil] at hW'
  refine (ChainsFind_walk W v0 bs0 hl0 v1 bs1 hl1 a2 a3).mono fun e W' ⟨he, hb⟩ => ?_
  subst he
  exact ⟨_, rfl, law_post Try.kids Try.full Try.underlying4 rfl rfl hW' (by rw [Try.params3]; decide) rfl rfl rfl hb⟩

theorem over : Rows.chainsFindRow.holds Try.pinned (OpenSpec.ofChange Rows.chainsFindSpec) :=
  OpenClaim.holds_of_wide 3 Try.f3 rfl rfl rfl rfl rfl rfl rfl ⟨rfl, rfl, rfl, rfl, rfl⟩ rfl rfl rfl rfl rfl (by kernel_rfl) Try.func3 (by kernel_rfl)
    (of_decide_eq_true (by kernel_rfl)) (by unfold Func.isWrapper; first | (rw [if_pos (by decide +kernel)]; kernel_rfl) | (rw [if_neg (by decide +kernel)]; exact ⟨rfl, rfl⟩))
    (fun os started H enc _ => lifted os started H enc)

/-- The statement. -/
theorem proved : Rows.ChainsFindSaid :=
  over
end Go.Proofs.Ytnmicfheekpnfaa.LChainsFind
