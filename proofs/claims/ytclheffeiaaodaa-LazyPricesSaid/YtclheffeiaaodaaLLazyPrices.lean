/-
  The law LazyPrices: for at most 150 bytes each of history and data, any window, depth and lookahead, the costs, the cheapest lookahead and the plan are the reference's. No condition.
-/
import Derived.Test.YtclheffeiaaodaaLzL
import Derived.Test.YtclheffeiaaodaaLzRef
namespace Go.Proofs.Ytclheffeiaaodaa
open Go.RowKit Go.Port

set_option maxRecDepth 100000 in
set_option maxHeartbeats 8000000 in
theorem LazyPrices_walk (w : World) (v1 : Value) (A : List UInt8) (h1 : Rs w 1 v1 A.length (A.map bv)) (v2 : Value) (D : List UInt8) (h2 : Rs w 1 v2 D.length (D.map bv)) (W dep far : Int) :
    Calls Try.prog 4 #[v1, v2, .int .i64 W, .int .i64 dep, .int .i64 far] w (RetV w (.bool true)) := by
  have HW := hid works_any
  have HM := hid (made_any v1 v2 A D W dep w h1 h2)
  clear h1 h2
  generalize hbs : A ++ D = bs at *
  go_enter Try.func4, Try.ntmps4
  go_wp2_with fail
  refine HM.out.mono ?_
  rintro e w1 (⟨rfl, hb⟩ | ⟨hm, F, a, c, rfl, hF, hC, hac, hb⟩)
  · have HB := hid (hb.alloc hb.size (.cells #[.slice none 0 0, .int .i64 0, .int .i64 0, .int .i64 0] 25))
    unfold fdv
    clear hb HM hbs
    go_wp2_with (go_at_call 12; refine (HW.out _).mono ?_; rintro e w' ⟨rfl, hb⟩)
    go_ret
    exact ⟨rfl, HB.out.trans (hb.mono HB.out.size)⟩
  · have hk := finderOk_bounds hm.hk
    have hA := hm.hA
    have hD := hm.hD
    have hlen : bs.length = A.length + D.length := by rw [← hbs, List.length_append]
    have HFx := hid (hF.low (below_new w1 (.cells (fdc a bs.length c A.length W dep).toArray 25)))
    have HB1 := hid (hb.alloc hb.size (.cells (fdc a bs.length c A.length W dep).toArray 25))
    have HX1 := hid (Blk.new w1 (fdc a bs.length c A.length W dep) 25)
    have HC1 := hid (hC.low (below_new w1 (.cells (fdc a bs.length c A.length W dep).toArray 25)))
    have HP1 := hid (fun W' hF' => lzcosts_any bs A.length W dep far F W' hF' (by omega))
    have HP2 := hid (fun W' hc' => rprices_any bs a c A.length W dep far W' (by omega) hac (by omega) hk.1 hk.2 hc')
    have HB2 := hid (fun W' hF' => lzbest_any bs A.length W dep far F W' hF' (by omega))
    have HB3 := hid (fun far W' hc' => rlbest_any bs a c A.length W dep far W' (by omega) hac (by omega) hk.1 hk.2 hc')
    have HB4 := hid (HB3.out far)
    have HB5 := hid (HB3.out 2)
    have HPa := hid (fun W' hF' => lzparse_any bs A.length W dep F W' hF' (by omega))
    have hlt : lazyB bs A.length W dep 2 ≤ 8 := by have := leastGo_lt (lazyC bs A.length W dep) 2; unfold lazyB; omega
    have e0 : lazyBo bs A.length W dep 2 = (lazyB bs A.length W dep 2 : Nat) := by unfold lazyBo; rw [show (2 : Int) = ((2 : Nat) : Int) from rfl, lazyE_nat (by omega), if_pos rfl, Int.toNat_natCast]
    have HLk := hid (fun W' hc' => rlook_any bs a c A.length W dep (lazyB bs A.length W dep 2 : Nat) W' (by omega) hac (by omega) hk.1 hk.2 hc')
    rw [lazyL_nat hlt, lazyE_nat hlt] at HLk
    rw [e0] at HB5
    have hL := lazyP_length bs A.length W dep (lazyB bs A.length W dep 2)
    have hln : (seqs (lazyP bs A.length W dep (lazyB bs A.length W dep 2))).length = (lazyP bs A.length W dep (lazyB bs A.length W dep 2)).length := by unfold seqs; rw [List.length_map]
    rw [← hln] at hL
    have hKl : (lazyK bs A.length W dep far).length ≤ 9 := by
      by_cases he : lazyE far = 0
      · obtain ⟨k, rfl, hk⟩ := lazyE_ok he
        rw [lazyK_nat hk, lazyCs_length]
        omega
      · unfold lazyK
        rw [if_neg he]
        simp
    generalize seqs (lazyP bs A.length W dep (lazyB bs A.length W dep 2)) = L at *
    have HSm := hid (fun a1 c1 a2 c2 W' h1 h2 => rsame_self a1 a2 c1 c2 L W' (by omega) h1 h2)
    generalize lazyB bs A.length W dep 2 = two at *
    generalize lazyBp bs A.length W dep 2 = ptwo at *
    generalize lazyE 2 = E2 at *
    generalize lazyK bs A.length W dep far = K at *
    generalize lazyBo bs A.length W dep far = of at *
    generalize lazyBp bs A.length W dep far = price at *
    generalize lazyE far = E at *
    unfold fdc at HFx HB1 HX1 HC1
    unfold fdv at HP2 HB4 HB5 HLk ⊢
    have hKI : (K.length : Int) ≤ 9 := by omega
    clear hF hb hC HM hbs hm hk hA hD hlen hL hln HB3 hlt e0
    have HBw1 := hid HB1.out
    have HFx1 := hid HFx.out
    clear HB1 HFx
    go_wp2_with fail
    refine (HP1.out _ HFx1.out).mono ?_
    rintro e w2 ⟨v, rfl, hown, hb⟩
    obtain ⟨a2, c2, rfl⟩ := own_slice hown
    have HK2 := hid ((Sl.of_owns hown).cells' rfl)
    have HBw2 := hid (HBw1.out.trans (hb.mono HBw1.out.size))
    have HX2 := hid (HX1.out.below hb HX1.out.lt)
    have HFx2 := hid (HFx1.out.low hb)
    have HC2 := hid (HC1.out.low hb)
    clear hown hb HBw1 HX1 HFx1 HC1
    have d0 := HX2.out.cell (k := 0) rfl
    have d1 := HX2.out.cell (k := 1) rfl
    have d2 := HX2.out.cell (k := 2) rfl
    have d3 := HX2.out.cell (k := 3) rfl
    go_wp2_with fail
    refine (HP2.out _ HC2.out).mono ?_
    rintro e w3 ⟨v, rfl, hown, hb⟩
    obtain ⟨a3, c3, rfl⟩ := own_slice hown
    have HJ3 := hid ((Sl.of_owns hown).cells' rfl)
    have HBw3 := hid (HBw2.out.trans (hb.mono HBw2.out.size))
    have HX3 := hid (HX2.out.below hb HX2.out.lt)
    have HFx3 := hid (HFx2.out.low hb)
    have HC3 := hid (HC2.out.low hb)
    have HK3 := hid (HK2.out.low hb)
    clear hown hb HBw2 HX2 HFx2 HC2 HK2
    clear d0 d1 d2 d3
    go_wp2_with fail
    refine (HB2.out _ HFx3.out).mono ?_
    rintro e w4 ⟨rfl, hb⟩
    have HBw4 := hid (HBw3.out.trans (hb.mono HBw3.out.size))
    have HX4 := hid (HX3.out.below hb HX3.out.lt)
    have HFx4 := hid (HFx3.out.low hb)
    have HC4 := hid (HC3.out.low hb)
    have HK4 := hid (HK3.out.low hb)
    have HJ4 := hid (HJ3.out.low hb)
    clear hb HBw3 HX3 HFx3 HC3 HK3 HJ3
    have d0 := HX4.out.cell (k := 0) rfl
    have d1 := HX4.out.cell (k := 1) rfl
    have d2 := HX4.out.cell (k := 2) rfl
    have d3 := HX4.out.cell (k := 3) rfl
    go_wp2_with fail
    refine (HB4.out _ HC4.out).mono ?_
    rintro e w5 ⟨rfl, hb⟩
    have HBw5 := hid (HBw4.out.trans (hb.mono HBw4.out.size))
    have HX5 := hid (HX4.out.below hb HX4.out.lt)
    have HFx5 := hid (HFx4.out.low hb)
    have HC5 := hid (HC4.out.low hb)
    have HK5 := hid (HK4.out.low hb)
    have HJ5 := hid (HJ4.out.low hb)
    clear hb HBw4 HX4 HFx4 HC4 HK4 HJ4
    clear d0 d1 d2 d3
    have d0 := HX5.out.cell (k := 0) rfl
    have d1 := HX5.out.cell (k := 1) rfl
    have d2 := HX5.out.cell (k := 2) rfl
    have d3 := HX5.out.cell (k := 3) rfl
    go_wp2_with fail
    refine (HB5.out _ HC5.out).mono ?_
    rintro e w6 ⟨rfl, hb⟩
    have HBw6 := hid (HBw5.out.trans (hb.mono HBw5.out.size))
    have HX6 := hid (HX5.out.below hb HX5.out.lt)
    have HFx6 := hid (HFx5.out.low hb)
    have HC6 := hid (HC5.out.low hb)
    have HK6 := hid (HK5.out.low hb)
    have HJ6 := hid (HJ5.out.low hb)
    clear hb HBw5 HX5 HFx5 HC5 HK5 HJ5
    clear d0 d1 d2 d3
    go_wp2_with fail
    refine (HPa.out _ HFx6.out).mono ?_
    rintro e w7 ⟨v, rfl, hown, hb⟩
    obtain ⟨a7, c7, rfl⟩ := own_slice hown
    have HL7 := hid ((Sl.of_owns hown).cells' rfl)
    have HBw7 := hid (HBw6.out.trans (hb.mono HBw6.out.size))
    have HX7 := hid (HX6.out.below hb HX6.out.lt)
    have HC7 := hid (HC6.out.low hb)
    have HK7 := hid (HK6.out.low hb)
    have HJ7 := hid (HJ6.out.low hb)
    clear hown hb HBw6 HX6 HC6 HK6 HJ6
    have d0 := HX7.out.cell (k := 0) rfl
    have d1 := HX7.out.cell (k := 1) rfl
    have d2 := HX7.out.cell (k := 2) rfl
    have d3 := HX7.out.cell (k := 3) rfl
    go_wp2_with fail
    refine (HLk.out _ HC7.out).mono ?_
    rintro e w8 ⟨v, rfl, hown, hb⟩
    obtain ⟨a8, c8, rfl⟩ := own_slice hown
    have HM8 := hid ((Sl.of_owns hown).cells' rfl)
    have HBw8 := hid (HBw7.out.trans (hb.mono HBw7.out.size))
    have HX8 := hid (HX7.out.below hb HX7.out.lt)
    have HK8 := hid (HK7.out.low hb)
    have HJ8 := hid (HJ7.out.low hb)
    have HL8 := hid (HL7.out.low hb)
    clear hown hb HBw7 HX7 HK7 HJ7 HL7
    clear d0 d1 d2 d3
    go_wp2_with (first | (go_at_call 16; refine (num_any _ _).mono ?_; rintro e w' ⟨rfl, rfl⟩))
    refine (HSm.out a7 c7 a8 c8 _ HL8.out HM8.out).mono ?_
    rintro e w' ⟨rfl, m, rfl⟩
    have hbd := below_drewN (Below.refl w8.heap.size w8) m
    have HBw9 := hid (HBw8.out.trans (hbd.mono HBw8.out.size))
    have HK9 := hid (HK8.out.low hbd)
    have HJ9 := hid (HJ8.out.low hbd)
    clear hbd HBw8 HX8 HK8 HJ8 HL8 HM8
    generalize w8.drewN m = w9 at *
    go_wp2_with fail
    go_loopw [31] (fun i wr => ∃ k : Nat, k ≤ K.length ∧ i = .int .i64 (k : Int) ∧ ∃ m, wr = w9.drewN m) (fun i _ => K.length - (intOf i).toNat)
    case atStart => exact ⟨0, Nat.zero_le _, rfl, 0, rfl⟩
    case round =>
      obtain ⟨k, hk, rfl, m, rfl⟩ := hrel
      by_cases hlt : k < K.length
      · obtain ⟨b1, o1, rfl, _, x1⟩ := HK9.out k (iv K[k]) (by simp [hlt])
        obtain ⟨b2, o2, rfl, _, x2⟩ := HJ9.out k (iv K[k]) (by simp [hlt])
        unfold iv at x1 x2
        generalize K[k] = x at *
        have hkI : (k : Int) < (K.length : Int) := by omega
        go_wp2_with fail
        go_quiet (fail)
        go_wp2
        go_roundw
        case rel => exact ⟨k + 1, by omega, by go_num, _, rfl⟩
        case measure => simp [intOf]; omega
      · obtain rfl : k = K.length := by omega
        have HBf := hid (below_drewN HBw9.out m)
        go_wp2_with fail
        refine (HW.out _).mono ?_
        rintro e w10 ⟨rfl, hb⟩
        go_wp2
        go_ret
        exact ⟨rfl, HBf.out.trans (hb.mono HBf.out.size)⟩
end Go.Proofs.Ytclheffeiaaodaa
namespace Go.Proofs.Ytclheffeiaaodaa.LLazyPrices
open Go.ChangeShapes Go.WideShapes Go.ChangeAt Go.RowKit Go.Port

set_option maxRecDepth 100000 in
theorem lifted (os : Os) (started : os.Started) (H : Type) (enc : TypeId × Value → H) :
    ReturnsInHanded {} Try.checked os 4 .any (Rows.lazyPricesSpec.pre6 enc Try.prog Try.f4 Rows.lazyPricesRow.domain false) (Rows.lazyPricesSpec.post enc Try.prog Try.f4 false true false false) := by
  refine returnsInHanded_of_change (C := Try.checked) Try.own started (by kernel_rfl) Try.func4
    (ChangeSpec.witness6 (enc := enc) (C := Try.checked) false ⟨#[], #[.slice none 0 0, .slice none 0 0, .int .i64 0, .int .i64 0, .int .i64 0], []⟩ 8 (by kernel_rfl) (by kernel_rfl) (by kernel_rfl) (by kernel_rfl)) ?_
  intro W base args ds gs before hval0 hW hcnd _
  have hval : ∀ (j : Nat) t v, Try.f4.params[j]? = some t → args[j]? = some v → Value.okWide Try.prog W .any base t v := hval0
  have hW' := hW
  obtain ⟨p, q, hA0, hV, rfl, hfz, hnd⟩ := hW
  have hA : DataW.TrodAll enc Try.prog W 0 (fun _ => true) true Try.f4.params.toList args.toList ds p := hA0
  rw [Try.params4] at hA hval
  obtain ⟨v0, vs0, d0, ds0, p0, q0, hargs, rfl, rfl, h0, r0⟩ := trodAll_cons hA
  obtain ⟨v1, vs1, d1, ds1, p1, q1, rfl, rfl, rfl, h1, r1⟩ := trodAll_cons r0
  obtain ⟨v2, vs2, d2, ds2, p2, q2, rfl, rfl, rfl, h2, r2⟩ := trodAll_cons r1
  obtain ⟨v3, vs3, d3, ds3, p3, q3, rfl, rfl, rfl, h3, r3⟩ := trodAll_cons r2
  obtain ⟨v4, vs4, d4, ds4, p4, q4, rfl, rfl, rfl, h4, r4⟩ := trodAll_cons r3
  obtain ⟨rfl, rfl, rfl⟩ := trodAll_nil r4
  obtain rfl : args = #[v0, v1, v2, v3, v4] := by cases args; simp_all
  obtain ⟨rfl, rfl⟩ := trodVars_none hV
  obtain ⟨l0, hl0, wl0⟩ := open_rowV Try.underlying22 Try.underlying5 (by kernel_rfl) (hval 0 22 v0 rfl rfl) h0
  obtain ⟨bs0, hbs0, hn0⟩ := bytes_of wl0
  rw [hbs0, ← hn0] at hl0
  obtain ⟨l1, hl1, wl1⟩ := open_rowV Try.underlying22 Try.underlying5 (by kernel_rfl) (hval 1 22 v1 rfl rfl) h1
  obtain ⟨bs1, hbs1, hn1⟩ := bytes_of wl1
  rw [hbs1, ← hn1] at hl1
  obtain ⟨a2, rfl, rfl, rfl, w2⟩ := open_int Try.underlying3 (hval 2 3 v2 rfl rfl) h2
  obtain ⟨a3, rfl, rfl, rfl, w3⟩ := open_int Try.underlying3 (hval 3 3 v3 rfl rfl) h3
  obtain ⟨a4, rfl, rfl, rfl, w4⟩ := open_int Try.underlying3 (hval 4 3 v4 rfl rfl) h4
  clear hA0 hval0
  simp only [List.append_nil] at hW'
  refine (LazyPrices_walk W v0 bs0 hl0 v1 bs1 hl1 a2 a3 a4).mono fun e W' ⟨he, hb⟩ => ?_
  subst he
  exact ⟨_, rfl, law_post Try.kids Try.full Try.underlying4 rfl rfl hW' (by rw [Try.params4]; decide) rfl rfl rfl hb⟩

theorem over : Rows.lazyPricesRow.holds Try.pinned (OpenSpec.ofChange Rows.lazyPricesSpec) :=
  OpenClaim.holds_of_wide 4 Try.f4 rfl rfl rfl rfl rfl rfl rfl ⟨rfl, rfl, rfl, rfl, rfl⟩ rfl rfl rfl rfl rfl (by kernel_rfl) Try.func4 (by kernel_rfl)
    (of_decide_eq_true (by kernel_rfl)) (by unfold Func.isWrapper; first | (rw [if_pos (by decide +kernel)]; kernel_rfl) | (rw [if_neg (by decide +kernel)]; exact ⟨rfl, rfl⟩))
    (fun os started H enc _ => lifted os started H enc)

/-- The statement. -/
theorem proved : Rows.LazyPricesSaid :=
  over
end Go.Proofs.Ytclheffeiaaodaa.LLazyPrices
