/-
  The law ChainsGo: for at most 300 bytes each of history and data, any window, depth and position, the iteration yields the matches of the reference, also with early exit. No condition.
-/
import Derived.Test.YtnmicfheekpnfaaCk
import Derived.Test.YtnmicfheekpnfaaCf
namespace Go.Proofs.Ytnmicfheekpnfaa
open Go.RowKit Go.Port

set_option maxRecDepth 100000 in
set_option maxHeartbeats 4000000 in
theorem ChainsGo_walk (w : World) (v1 : Value) (A : List UInt8) (h1 : Rs w 1 v1 A.length (A.map bv)) (v2 : Value) (D : List UInt8) (h2 : Rs w 1 v2 D.length (D.map bv)) (W dep p many : Int) (hmb : -9223372036854775808 ≤ many ∧ many ≤ 9223372036854775807) :
    Calls Try.prog 5 #[v1, v2, .int .i64 W, .int .i64 dep, .int .i64 p, .int .i64 many] w (RetV w (.bool true)) := by
  have HW := hid works_any
  have HM := hid (fun hA hD => made_any v1 v2 A D W dep w hA hD h1 h2)
  obtain ⟨_, a1, k1, rfl, hk1, _, hn1, hcell1⟩ := h1
  obtain ⟨_, a2, k2, rfl, hk2, _, hn2, hcell2⟩ := h2
  clear hcell1 hcell2 hn1 hn2 hk1 hk2
  generalize hbs : A ++ D = bs at *
  by_cases hlA : 300 < (A.length : Int)
  · clear HM hbs
    go_enter Try.func5, Try.ntmps5
    go_wp2_with (go_at_call 10; refine (HW.out _).mono ?_; rintro e w' ⟨rfl, hb⟩)
    go_ret
    exact ⟨rfl, hb⟩
  by_cases hlD : 300 < (D.length : Int)
  · clear HM hbs
    go_enter Try.func5, Try.ntmps5
    go_wp2_with (go_at_call 10; refine (HW.out _).mono ?_; rintro e w' ⟨rfl, hb⟩)
    go_ret
    exact ⟨rfl, hb⟩
  have HM := hid (HM.out (by omega) (by omega))
  go_enter Try.func5, Try.ntmps5
  go_wp2_with fail
  refine HM.out.mono ?_
  rintro e w1 (⟨rfl, hb⟩ | ⟨hm, F, a, c, rfl, hF, hC, hac, hb⟩)
  · have HB := hid (hb.alloc hb.size (.cells #[.slice none 0 0, .int .i64 0, .int .i64 0, .int .i64 0] 26))
    unfold fdv
    clear hb HM hbs
    go_wp2_with (go_at_call 10; refine (HW.out _).mono ?_; rintro e w' ⟨rfl, hb⟩)
    go_ret
    exact ⟨rfl, HB.out.trans (hb.mono HB.out.size)⟩
  · have hk := finderOk_bounds hm.hk
    have hA : (A.length : Int) ≤ 300 := by omega
    have hD : (D.length : Int) ≤ 300 := by omega
    have hlen : bs.length = A.length + D.length := by rw [← hbs, List.length_append]
    have HFx1 := hid (hF.low (below_new w1 (.cells (fdc a bs.length c A.length W dep).toArray 26)))
    have HBw1 := hid (hb.alloc hb.size (.cells (fdc a bs.length c A.length W dep).toArray 26))
    have HC1 := hid (hC.low (below_new w1 (.cells (fdc a bs.length c A.length W dep).toArray 26)))
    have HX1 := hid (Blk.new w1 (fdc a bs.length c A.length W dep) 26)
    have hb1' := Below.refl (w1.alloc (.cells (fdc a bs.length c A.length W dep).toArray 26)).heap.size (w1.alloc (.cells (fdc a bs.length c A.length W dep).toArray 26))
    clear hF hC hb HM hm
    unfold fdc at HFx1 HBw1 HC1 HX1 hb1'
    unfold fdv
    have hX1lt := HX1.out.lt
    have HAl := hid (fun W' (h : CellsAt W' a (bs.map bv)) => rall_all bs a c A.length W dep p W' (by omega) hac (by omega) hk.1 hk.2 h)
    have HOv := hid (fun many hmb al cl W' hF' hc' => over_any bs A.length W dep F p many al cl W' hF' hc' hmb)
    have c0 := HX1.out.cell (k := 0) rfl
    have c1 := HX1.out.cell (k := 1) rfl
    have c2 := HX1.out.cell (k := 2) rfl
    have c3 := HX1.out.cell (k := 3) rfl
    generalize allS bs A.length W dep p = L at *
    have HMb := hid hmb
    clear hk hA hD hlen hac hbs hmb hb1' hX1lt HX1
    go_wp2_with fail
    refine (HAl.out _ HC1.out).mono ?_
    rintro e w2 ⟨v, rfl, hown, hb⟩
    obtain ⟨b1, d1, rfl⟩ := own_slice hown
    have HP2 := hid ((Sl.of_owns hown).cells' rfl)
    have HBw2 := hid (HBw1.out.trans (hb.mono HBw1.out.size))
    have HFx2 := hid (HFx1.out.low hb)
    clear hown hb HBw1 HFx1 HC1 c0 c1 c2 c3
    go_wp2_with fail
    refine (HOv.out many HMb.out b1 d1 _ HFx2.out (fun j u hu => HP2.out j u hu)).mono ?_
    rintro e w3 ⟨rfl, hb⟩
    have HBw3 := hid (HBw2.out.trans (hb.mono HBw2.out.size))
    have HFx3 := hid (HFx2.out.low hb)
    have HP3 := hid (HP2.out.low hb)
    clear hb HBw2 HFx2 HP2
    go_wp2_with fail
    refine (HOv.out 9999 (by decide) b1 d1 _ HFx3.out (fun j u hu => HP3.out j u hu)).mono ?_
    rintro e w4 ⟨rfl, hb⟩
    have HBw4 := hid (HBw3.out.trans (hb.mono HBw3.out.size))
    clear hb HBw3
    go_wp2_with fail
    refine (HW.out _).mono ?_
    rintro e w5 ⟨rfl, hb⟩
    go_wp2
    go_ret
    exact ⟨rfl, HBw4.out.trans (hb.mono HBw4.out.size)⟩
end Go.Proofs.Ytnmicfheekpnfaa
namespace Go.Proofs.Ytnmicfheekpnfaa.LChainsGo
open Go.ChangeShapes Go.WideShapes Go.ChangeAt Go.RowKit Go.Port

set_option maxRecDepth 100000 in
theorem lifted (os : Os) (started : os.Started) (H : Type) (enc : TypeId × Value → H) :
    ReturnsInHanded {} Try.checked os 5 .any (Rows.chainsGoSpec.pre6 enc Try.prog Try.f5 Rows.chainsGoRow.domain false) (Rows.chainsGoSpec.post enc Try.prog Try.f5 false true false false) := by
  refine returnsInHanded_of_change (C := Try.checked) Try.own started (by kernel_rfl) Try.func5
    (ChangeSpec.witness6 (enc := enc) (C := Try.checked) false ⟨#[], #[.slice none 0 0, .slice none 0 0, .int .i64 0, .int .i64 0, .int .i64 0, .int .i64 0], []⟩ 8 (by kernel_rfl) (by kernel_rfl) (by kernel_rfl) (by kernel_rfl)) ?_
  intro W base args ds gs before hval0 hW hcnd _
  have hval : ∀ (j : Nat) t v, Try.f5.params[j]? = some t → args[j]? = some v → Value.okWide Try.prog W .any base t v := hval0
  have hW' := hW
  obtain ⟨p, q, hA0, hV, rfl, hfz, hnd⟩ := hW
  have hA : DataW.TrodAll enc Try.prog W 0 (fun _ => true) true Try.f5.params.toList args.toList ds p := hA0
  rw [Try.params5] at hA hval
  obtain ⟨v0, vs0, d0, ds0, p0, q0, hargs, rfl, rfl, h0, r0⟩ := trodAll_cons hA
  obtain ⟨v1, vs1, d1, ds1, p1, q1, rfl, rfl, rfl, h1, r1⟩ := trodAll_cons r0
  obtain ⟨v2, vs2, d2, ds2, p2, q2, rfl, rfl, rfl, h2, r2⟩ := trodAll_cons r1
  obtain ⟨v3, vs3, d3, ds3, p3, q3, rfl, rfl, rfl, h3, r3⟩ := trodAll_cons r2
  obtain ⟨v4, vs4, d4, ds4, p4, q4, rfl, rfl, rfl, h4, r4⟩ := trodAll_cons r3
  obtain ⟨v5, vs5, d5, ds5, p5, q5, rfl, rfl, rfl, h5, r5⟩ := trodAll_cons r4
  obtain ⟨rfl, rfl, rfl⟩ := trodAll_nil r5
  obtain rfl : args = #[v0, v1, v2, v3, v4, v5] := by cases args; simp_all
  obtain ⟨rfl, rfl⟩ := trodVars_none hV
  obtain ⟨l0, hl0, wl0⟩ := open_rowV Try.underlying22 Try.underlying5 (by kernel_rfl) (hval 0 22 v0 rfl rfl) h0
  obtain ⟨bs0, hbs0, hn0⟩ := bytes_of wl0
  rw [hbs0, ← hn0] at hl0
  obtain ⟨l1, hl1, wl1⟩ := open_rowV Try.underlying22 Try.underlying5 (by kernel_rfl) (hval 1 22 v1 rfl rfl) h1
  obtain ⟨bs1, hbs1, hn1⟩ := bytes_of wl1
  rw [hbs1, ← hn1] at hl1
  obtain ⟨a2, rfl, rfl, rfl, w2⟩ := open_int Try.underlying3 (hval 2 3 v2 rfl rfl) h2
  obtain ⟨a3, rfl, rfl, rfl, w3⟩ := open_int Try.underlying3 (hval 3 3 v3 rfl rfl) h3
  obtain ⟨a4, rfl, rfl, rfl, w4⟩ := open_int Try.underlying3 (hval 4 3 v4 rfl rfl) h4
  obtain ⟨a5, rfl, rfl, rfl, w5⟩ := open_int Try.underlying3 (hval 5 3 v5 rfl rfl) h5
  clear hA0 hval0
  simp only [List.append_nil] at hW'
  refine (ChainsGo_walk W v0 bs0 hl0 v1 bs1 hl1 a2 a3 a4 a5 (bounds_i64 w5)).mono fun e W' ⟨he, hb⟩ => ?_
  subst he
  exact ⟨_, rfl, law_post Try.kids Try.full Try.underlying4 rfl rfl hW' (by rw [Try.params5]; decide) rfl rfl rfl hb⟩

theorem over : Rows.chainsGoRow.holds Try.pinned (OpenSpec.ofChange Rows.chainsGoSpec) :=
  OpenClaim.holds_of_wide 5 Try.f5 rfl rfl rfl rfl rfl rfl rfl ⟨rfl, rfl, rfl, rfl, rfl⟩ rfl rfl rfl rfl rfl (by kernel_rfl) Try.func5 (by kernel_rfl)
    (of_decide_eq_true (by kernel_rfl)) (by unfold Func.isWrapper; first | (rw [if_pos (by decide +kernel)]; kernel_rfl) | (rw [if_neg (by decide +kernel)]; exact ⟨rfl, rfl⟩))
    (fun os started H enc _ => lifted os started H enc)

/-- The statement. -/
theorem proved : Rows.ChainsGoSaid :=
  over
end Go.Proofs.Ytnmicfheekpnfaa.LChainsGo
