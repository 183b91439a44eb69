/-
  The law ChainsPlaces: for at most 300 bytes each of history and data, any window, depth and position, the distances are those of the reference. No condition.
-/
import Derived.Test.YtnmicfheekpnfaaCk
import Derived.Test.YtnmicfheekpnfaaCf
namespace Go.Proofs.Ytnmicfheekpnfaa
open Go.RowKit Go.Port

set_option maxRecDepth 100000 in
set_option maxHeartbeats 4000000 in
theorem ChainsPlaces_walk (w : World) (v1 : Value) (A : List UInt8) (h1 : Rs w 1 v1 A.length (A.map bv)) (v2 : Value) (D : List UInt8) (h2 : Rs w 1 v2 D.length (D.map bv)) (W dep p : Int) :
    Calls Try.prog 4 #[v1, v2, .int .i64 W, .int .i64 dep, .int .i64 p] w (RetV w (.bool true)) := by
  have HW := hid works_any
  have HM := hid (fun hA hD => made_any v1 v2 A D W dep w hA hD h1 h2)
  obtain ⟨_, a1, k1, rfl, hk1, _, hn1, hcell1⟩ := h1
  obtain ⟨_, a2, k2, rfl, hk2, _, hn2, hcell2⟩ := h2
  clear hcell1 hcell2 hn1 hn2 hk1 hk2
  generalize hbs : A ++ D = bs at *
  by_cases hlA : 300 < (A.length : Int)
  · clear HM hbs
    go_enter Try.func4, Try.ntmps4
    go_wp2_with (go_at_call 10; refine (HW.out _).mono ?_; rintro e w' ⟨rfl, hb⟩)
    go_ret
    exact ⟨rfl, hb⟩
  by_cases hlD : 300 < (D.length : Int)
  · clear HM hbs
    go_enter Try.func4, Try.ntmps4
    go_wp2_with (go_at_call 10; refine (HW.out _).mono ?_; rintro e w' ⟨rfl, hb⟩)
    go_ret
    exact ⟨rfl, hb⟩
  have HM := hid (HM.out (by omega) (by omega))
  go_enter Try.func4, Try.ntmps4
  go_wp2_with fail
  refine HM.out.mono ?_
  rintro e w1 (⟨rfl, hb⟩ | ⟨hm, F, a, c, rfl, hF, hC, hac, hb⟩)
  · have HB := hid (hb.alloc hb.size (.cells #[.slice none 0 0, .int .i64 0, .int .i64 0, .int .i64 0] 26))
    unfold fdv
    clear hb HM hbs
    go_wp2_with (go_at_call 10; refine (HW.out _).mono ?_; rintro e w' ⟨rfl, hb⟩)
    go_ret
    exact ⟨rfl, HB.out.trans (hb.mono HB.out.size)⟩
  · have hk := finderOk_bounds hm.hk
    have hA : (A.length : Int) ≤ 300 := by omega
    have hD : (D.length : Int) ≤ 300 := by omega
    have hlen : bs.length = A.length + D.length := by rw [← hbs, List.length_append]
    have HFx1 := hid (hF.low (below_new w1 (.cells (fdc a bs.length c A.length W dep).toArray 26)))
    have HBw1 := hid (hb.alloc hb.size (.cells (fdc a bs.length c A.length W dep).toArray 26))
    have HC1 := hid (hC.low (below_new w1 (.cells (fdc a bs.length c A.length W dep).toArray 26)))
    have HX1 := hid (Blk.new w1 (fdc a bs.length c A.length W dep) 26)
    have hb1' := Below.refl (w1.alloc (.cells (fdc a bs.length c A.length W dep).toArray 26)).heap.size (w1.alloc (.cells (fdc a bs.length c A.length W dep).toArray 26))
    clear hF hC hb HM hm
    unfold fdc at HFx1 HBw1 HC1 HX1 hb1'
    unfold fdv
    have hX1lt := HX1.out.lt
    have HPl := hid (fun W' (h : CellsAt W' a (bs.map bv)) => rplaces_all bs a c A.length W dep p W' (by omega) hac (by omega) hk.1 hk.2 h)
    have HDi := hid (fun W' hF' => cdist_any bs A.length W dep F p W' hF')
    have hln : (placesS bs A.length W dep p).length ≤ 5000 := by
      rw [placesS_candL, List.length_map]
      have := candL_wide bs A.length W dep p (by omega)
      omega
    have HSm := hid (fun (a1 a2 : Option Addr) (c1 c2 : Nat) (W' : World) h1 h2 => ints_same a1 a2 c1 c2 (placesS bs A.length W dep p) W' (by omega) h1 h2)
    generalize placesS bs A.length W dep p = L at *
    clear hk hA hD hlen hac hlA hlD hln hbs
    go_upto_region 6 with fail
    generalize w1.alloc (.cells #[.slice a bs.length c, .int .i64 (A.length : Int), .int .i64 W, .int .i64 dep] 26) = w2 at *
    refine wp_region_noPanic ?_
    refine wp_region_held_drew (S := fun W' => Below w2.heap.size w2 W') (by kernel_rfl) hb1'.drew (fun hHeld => ?_)
    refine wpAnyH_take (i := 0) (v := .pointer (some ⟨F, 0, none⟩)) (by simp only [List.getElem?_toArray, List.getElem?_cons_zero]; rfl) (by kernel_rfl) (by kernel_rfl) (by kernel_rfl) (fun _ _ _ h => h) (Or.inl ⟨by rfl, fun W hSw => ?_⟩) (by assumption) ?_
    · clear hSw
      go_simp
    simp only [Act.put, List.setIfInBounds_toArray, List.set_cons_zero, List.set_cons_succ]
    refine wpAnyH_take (i := 1) (v := .int .i64 p) (by simp only [List.getElem?_toArray, List.getElem?_cons_zero, List.getElem?_cons_succ]; rfl) (by kernel_rfl) (by kernel_rfl) (by kernel_rfl) (fun _ _ _ h => h) (Or.inl ⟨by rfl, fun W hSw => ?_⟩) (by assumption) ?_
    · clear hSw
      go_simp
    simp only [Act.put, List.setIfInBounds_toArray, List.set_cons_zero, List.set_cons_succ]
    refine wpAnyH_take (i := 3) (v := .agg #[.slice a bs.length c, .int .i64 (A.length : Int), .int .i64 W, .int .i64 dep]) (by simp only [List.getElem?_toArray, List.getElem?_cons_zero, List.getElem?_cons_succ]; rfl) (by kernel_rfl) (by kernel_rfl) (by kernel_rfl) (fun _ _ _ h => h) (Or.inl ⟨by rfl, fun W hSw => ?_⟩) (by assumption) ?_
    · have hcw0 := (hSw.cell (p := ⟨w1.heap.size, 0, none⟩) hX1lt).trans (HX1.out.cell (k := 0) rfl)
      have hcw1 := (hSw.cell (p := ⟨w1.heap.size, 1, none⟩) hX1lt).trans (HX1.out.cell (k := 1) rfl)
      have hcw2 := (hSw.cell (p := ⟨w1.heap.size, 2, none⟩) hX1lt).trans (HX1.out.cell (k := 2) rfl)
      have hcw3 := (hSw.cell (p := ⟨w1.heap.size, 3, none⟩) hX1lt).trans (HX1.out.cell (k := 3) rfl)
      go_simp
    simp only [Act.put, List.setIfInBounds_toArray, List.set_cons_zero, List.set_cons_succ]
    refine wpAnyH_take (i := 4) (v := .int .i64 p) (by simp only [List.getElem?_toArray, List.getElem?_cons_zero, List.getElem?_cons_succ]; rfl) (by kernel_rfl) (by kernel_rfl) (by kernel_rfl) (fun _ _ _ h => h) (Or.inl ⟨by rfl, fun W hSw => ?_⟩) (by assumption) ?_
    · clear hSw
      go_simp
    simp only [Act.put, List.setIfInBounds_toArray, List.set_cons_zero, List.set_cons_succ]
    refine wpAnyH_ready (rs := [2]) (by kernel_rfl) (by simp) ?_
    refine AllReadyH.cons (by simp only [List.getElem?_toArray, List.getElem?_cons_zero, List.getElem?_cons_succ]; rfl) (fun K hK => ?_) AllReadyH.nil
    rw [if_pos (by rfl)]
    go_simp
    go_at_call 15
    refine (HDi.out _ (HFx1.out.low hb1'.drew)).mono ?_
    rintro e w3 ⟨v, rfl, hown, hb⟩
    obtain ⟨b1, d1, rfl⟩ := own_slice hown
    have HP := hid ((Sl.of_owns hown).cells' rfl)
    have hb3 := hb1'.drew.trans hb
    dsimp only
    refine hK.out _ _ hb3 (fun _ => ?_)
    clear hK K hown hb
    refine wpAnyH_ready (rs := [5]) (by kernel_rfl) (by simp) ?_
    refine AllReadyH.cons (by simp only [List.getElem?_toArray, List.getElem?_cons_zero, List.getElem?_cons_succ]; rfl) (fun K hK => ?_) AllReadyH.nil
    rw [if_pos (by rfl)]
    go_simp
    go_at_call 16
    refine (HPl.out _ (HC1.out.low hb3)).mono ?_
    rintro e w4 ⟨v, rfl, hown, hb⟩
    obtain ⟨b2, d2, rfl⟩ := own_slice hown
    have HQ := hid ((Sl.of_owns hown).cells' rfl)
    have HP4 := hid (HP.out.low hb)
    have hb4 := hb3.trans (hb.mono hb3.size)
    dsimp only
    refine hK.out _ _ hb4 (fun _ => ?_)
    clear hK K hown hb hb3 HP
    refine wpAnyH_ready (rs := [6]) (by kernel_rfl) (by simp) ?_
    refine AllReadyH.cons (by simp only [List.getElem?_toArray, List.getElem?_cons_zero, List.getElem?_cons_succ]; rfl) (fun K hK => ?_) AllReadyH.nil
    rw [if_pos (by rfl)]
    go_simp
    go_at_call 14
    refine (HSm.out b1 b2 d1 d2 _ HP4.out HQ.out).mono ?_
    rintro e w5 ⟨rfl, m, rfl⟩
    have hb5 := below_drewN hb4 m
    dsimp only
    refine hK.out _ _ hb5 (fun _ => ?_)
    clear hK K HP4 HQ
    refine wpAnyH_ready (rs := [7]) (by kernel_rfl) (by simp) ?_
    refine AllReadyH.cons (by simp only [List.getElem?_toArray, List.getElem?_cons_zero, List.getElem?_cons_succ]; rfl) (fun K hK => ?_) AllReadyH.nil
    rw [if_pos (by rfl)]
    go_simp
    refine hK.out _ _ hb5 (fun _ => ?_)
    clear hK K
    refine wpAnyH_ready (rs := [8]) (by kernel_rfl) (by simp) ?_
    refine AllReadyH.cons (by simp only [List.getElem?_toArray, List.getElem?_cons_zero, List.getElem?_cons_succ]; rfl) (fun K hK => ?_) AllReadyH.nil
    rw [if_pos (by rfl)]
    go_simp
    go_at_call 10
    refine (HW.out _).mono ?_
    rintro e w6 ⟨rfl, hb⟩
    have hb6 := hb5.trans (hb.mono hb5.size)
    dsimp only
    refine hK.out _ _ hb6 (fun _ => ?_)
    clear hK K hb
    refine wpAnyH_ready (rs := [9]) (by kernel_rfl) (by simp) ?_
    refine AllReadyH.cons (by simp only [List.getElem?_toArray, List.getElem?_cons_zero, List.getElem?_cons_succ]; rfl) (fun K hK => ?_) AllReadyH.nil
    rw [if_pos (by rfl)]
    go_simp
    refine hK.out _ _ hb6 (fun _ => ?_)
    clear hK K
    refine wpAnyH_ready (rs := [10]) (by kernel_rfl) (by simp) ?_
    refine AllReadyH.cons (by simp only [List.getElem?_toArray, List.getElem?_cons_zero, List.getElem?_cons_succ]; rfl) (fun K hK => ?_) AllReadyH.nil
    rw [if_pos (by rfl)]
    go_simp
    refine hK.out _ _ hb6 (fun _ => ?_)
    clear hK K
    refine wpAnyH_done (by kernel_rfl) ?_ _
    refine NoPanic.normal ?_
    go_wp2
    go_ret
    exact ⟨rfl, HBw1.out.trans (hb6.mono HBw1.out.size)⟩
end Go.Proofs.Ytnmicfheekpnfaa
namespace Go.Proofs.Ytnmicfheekpnfaa.LChainsPlaces
open Go.ChangeShapes Go.WideShapes Go.ChangeAt Go.RowKit Go.Port

set_option maxRecDepth 100000 in
theorem lifted (os : Os) (started : os.Started) (H : Type) (enc : TypeId × Value → H) :
    ReturnsInHanded {} Try.checked os 4 .any (Rows.chainsPlacesSpec.pre6 enc Try.prog Try.f4 Rows.chainsPlacesRow.domain false) (Rows.chainsPlacesSpec.post enc Try.prog Try.f4 false true false false) := by
  refine returnsInHanded_of_change (C := Try.checked) Try.own started (by kernel_rfl) Try.func4
    (ChangeSpec.witness6 (enc := enc) (C := Try.checked) false ⟨#[], #[.slice none 0 0, .slice none 0 0, .int .i64 0, .int .i64 0, .int .i64 0], []⟩ 8 (by kernel_rfl) (by kernel_rfl) (by kernel_rfl) (by kernel_rfl)) ?_
  intro W base args ds gs before hval0 hW hcnd _
  have hval : ∀ (j : Nat) t v, Try.f4.params[j]? = some t → args[j]? = some v → Value.okWide Try.prog W .any base t v := hval0
  have hW' := hW
  obtain ⟨p, q, hA0, hV, rfl, hfz, hnd⟩ := hW
  have hA : DataW.TrodAll enc Try.prog W 0 (fun _ => true) true Try.f4.params.toList args.toList ds p := hA0
  rw [Try.params4] at hA hval
  obtain ⟨v0, vs0, d0, ds0, p0, q0, hargs, rfl, rfl, h0, r0⟩ := trodAll_cons hA
  obtain ⟨v1, vs1, d1, ds1, p1, q1, rfl, rfl, rfl, h1, r1⟩ := trodAll_cons r0
  obtain ⟨v2, vs2, d2, ds2, p2, q2, rfl, rfl, rfl, h2, r2⟩ := trodAll_cons r1
  obtain ⟨v3, vs3, d3, ds3, p3, q3, rfl, rfl, rfl, h3, r3⟩ := trodAll_cons r2
  obtain ⟨v4, vs4, d4, ds4, p4, q4, rfl, rfl, rfl, h4, r4⟩ := trodAll_cons r3
  obtain ⟨rfl, rfl, rfl⟩ := trodAll_nil r4
  obtain rfl : args = #[v0, v1, v2, v3, v4] := by cases args; simp_all
  obtain ⟨rfl, rfl⟩ := trodVars_none hV
  obtain ⟨l0, hl0, wl0⟩ := open_rowV Try.underlying22 Try.underlying5 (by kernel_rfl) (hval 0 22 v0 rfl rfl) h0
  obtain ⟨bs0, hbs0, hn0⟩ := bytes_of wl0
  rw [hbs0, ← hn0] at hl0
  obtain ⟨l1, hl1, wl1⟩ := open_rowV Try.underlying22 Try.underlying5 (by kernel_rfl) (hval 1 22 v1 rfl rfl) h1
  obtain ⟨bs1, hbs1, hn1⟩ := bytes_of wl1
  rw [hbs1, ← hn1] at hl1
  obtain ⟨a2, rfl, rfl, rfl, w2⟩ := open_int Try.underlying3 (hval 2 3 v2 rfl rfl) h2
  obtain ⟨a3, rfl, rfl, rfl, w3⟩ := open_int Try.underlying3 (hval 3 3 v3 rfl rfl) h3
  obtain ⟨a4, rfl, rfl, rfl, w4⟩ := open_int Try.underlying3 (hval 4 3 v4 rfl rfl) h4
  clear hA0 hval0
  simp only [List.append_nil] at hW'
  refine (ChainsPlaces_walk W v0 bs0 hl0 v1 bs1 hl1 a2 a3 a4).mono fun e W' ⟨he, hb⟩ => ?_
  subst he
  exact ⟨_, rfl, law_post Try.kids Try.full Try.underlying4 rfl rfl hW' (by rw [Try.params4]; decide) rfl rfl rfl hb⟩

theorem over : Rows.chainsPlacesRow.holds Try.pinned (OpenSpec.ofChange Rows.chainsPlacesSpec) :=
  OpenClaim.holds_of_wide 4 Try.f4 rfl rfl rfl rfl rfl rfl rfl ⟨rfl, rfl, rfl, rfl, rfl⟩ rfl rfl rfl rfl rfl (by kernel_rfl) Try.func4 (by kernel_rfl)
    (of_decide_eq_true (by kernel_rfl)) (by unfold Func.isWrapper; first | (rw [if_pos (by decide +kernel)]; kernel_rfl) | (rw [if_neg (by decide +kernel)]; exact ⟨rfl, rfl⟩))
    (fun os started H enc _ => lifted os started H enc)

/-- The statement. -/
theorem proved : Rows.ChainsPlacesSaid :=
  over
end Go.Proofs.Ytnmicfheekpnfaa.LChainsPlaces
