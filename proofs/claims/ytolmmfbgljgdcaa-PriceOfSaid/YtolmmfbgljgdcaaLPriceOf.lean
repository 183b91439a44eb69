/-
  The law PriceOf: the model built from a plan is that of the reference, and costs as it says. No condition.
-/
import Derived.Test.YtolmmfbgljgdcaaPrL
import Derived.Test.YtolmmfbgljgdcaaPrX
import Derived.Test.YtolmmfbgljgdcaaPrZ
namespace Go.Proofs.Ytolmmfbgljgdcaa
open Go.RowKit Go.Port

set_option maxRecDepth 100000 in
set_option maxHeartbeats 8000000 in
theorem PriceOf_walk (w : World) (v0 : Value) (bs : List UInt8) (h0 : Rs w 1 v0 bs.length (bs.map bv)) (v1 : Value) (l : List Sq) (h1 : Rs w 3 v1 l.length (l.flatMap lsqc)) (hwf : ∀ s ∈ l, SqI s) (v2 : Value) (b2 : List UInt8) (h2 : Rs w 1 v2 b2.length (b2.map bv)) (n : Int) (hn : -9223372036854775808 ≤ n ∧ n ≤ 9223372036854775807) :
    Calls Try.prog 6 #[v0, v1, v2, .int .i64 n] w (RetV w (.bool true)) := by
  have HW := hid prworks_any
  obtain ⟨ad, c, a, cl, rfl, rfl, hpd⟩ := pd_of h0 h1
  obtain ⟨_, a2, c2, rfl, hk2, _, hn2, hcell2⟩ := h2
  have HD0 := hid (show Cs w a2 (b2.map bv) from hcell2)
  have HPd := hid hpd
  have HWf := hid hwf
  clear h0 h1 hpd hwf hk2 hn2 hcell2
  go_enter Try.func6, Try.ntmps6
  by_cases hl1 : (bs.length : Int) ≤ 300
  rotate_left
  · go_wp2_with (go_at_call 11; refine (HW.out _).mono ?_; rintro e w' ⟨rfl, hb⟩)
    go_ret
    exact ⟨rfl, hb⟩
  by_cases hl2 : (l.length : Int) ≤ 40
  rotate_left
  · go_wp2_with (go_at_call 11; refine (HW.out _).mono ?_; rintro e w' ⟨rfl, hb⟩)
    go_ret
    exact ⟨rfl, hb⟩
  by_cases hl3 : (b2.length : Int) ≤ 40
  rotate_left
  · go_wp2_with (go_at_call 11; refine (HW.out _).mono ?_; rintro e w' ⟨rfl, hb⟩)
    go_ret
    exact ⟨rfl, hb⟩
  have HP0 := hid (HPd.out (by omega) (by omega))
  have hb2l : b2.length ≤ 1000000 := by omega
  clear HPd
  go_wp2_with fail
  cases hp : plitsO bs l with
  | false =>
    refine (prfrom_bad1 w a cl l ad c bs HP0.out hp).mono ?_
    rintro e w1 ⟨rfl, hb⟩
    have HB1 := hid hb
    clear hb
    go_wp2_with fail
    refine (rof_bad1 w1 a cl l ad c bs (HP0.out.low HB1.out) hp).mono ?_
    rintro e w2 ⟨rfl, hb⟩
    have HB2 := hid (HB1.out.trans (hb.mono HB1.out.size))
    have HB3 := hid (HB2.out.trans ((below_new w2 (.cells #[.slice none 0 0, .slice none 0 0, .slice none 0 0, .slice none 0 0] 29)).mono HB2.out.size))
    clear hb
    go_wp2_with fail
    generalize w2.alloc (.cells #[.slice none 0 0, .slice none 0 0, .slice none 0 0, .slice none 0 0] 29) = w3 at *
    refine (prnum_any _ _).mono ?_
    rintro e w' ⟨rfl, rfl⟩
    go_wp2_with fail
    refine (HW.out _).mono ?_
    rintro e w4 ⟨rfl, hb⟩
    go_wp2
    go_ret
    exact ⟨rfl, HB3.out.trans (hb.mono HB3.out.size)⟩
  | true =>
    by_cases ho : ∀ s ∈ l, offOk s = true
    rotate_left
    · refine (prfrom_bad2 w a cl l ad c bs HP0.out hp (fun s hs => (HWf.out s hs).2.2) ho).mono ?_
      rintro e w1 ⟨rfl, hb⟩
      have HB1 := hid hb
      clear hb
      go_wp2_with fail
      refine (rof_bad2 w1 a cl l ad c bs (HP0.out.low HB1.out) hp ho).mono ?_
      rintro e w2 ⟨rfl, hb⟩
      have HB2 := hid (HB1.out.trans (hb.mono HB1.out.size))
      have HB3 := hid (HB2.out.trans ((below_new w2 (.cells #[.slice none 0 0, .slice none 0 0, .slice none 0 0, .slice none 0 0] 29)).mono HB2.out.size))
      clear hb
      go_wp2_with fail
      generalize w2.alloc (.cells #[.slice none 0 0, .slice none 0 0, .slice none 0 0, .slice none 0 0] 29) = w3 at *
      refine (prnum_any _ _).mono ?_
      rintro e w' ⟨rfl, rfl⟩
      go_wp2_with fail
      refine (HW.out _).mono ?_
      rintro e w4 ⟨rfl, hb⟩
      go_wp2
      go_ret
      exact ⟨rfl, HB3.out.trans (hb.mono HB3.out.size)⟩
    refine (prfrom_ok w a cl l ad c bs HP0.out hp ho).mono ?_
    rintro e w1 ⟨M, rfl, hpr, _, hb⟩
    have HB1 := hid hb
    have HP1 := hid hpr
    clear hb hpr
    go_wp2_with fail
    refine (rof_ok w1 a cl l ad c bs (HP0.out.low HB1.out) hp ho).mono ?_
    rintro e w2 ⟨A, cp, rfl, hr, hb⟩
    have HB2 := hid (HB1.out.trans (hb.mono HB1.out.size))
    have HBn := hid (below_new w2 (.cells #[.slice (A 0) (planC bs l 0).length (cp 0), .slice (A 1) (planC bs l 1).length (cp 1), .slice (A 2) (planC bs l 2).length (cp 2), .slice (A 3) (planC bs l 3).length (cp 3)] 29))
    have HB3 := hid (HB2.out.trans (HBn.out.mono HB2.out.size))
    have HP3 := hid ((HP1.out.low hb).low HBn.out)
    have HR3 := hid (hr.low HBn.out)
    have HX3 := hid (Blk.new w2 [.slice (A 0) (planC bs l 0).length (cp 0), .slice (A 1) (planC bs l 1).length (cp 1), .slice (A 2) (planC bs l 2).length (cp 2), .slice (A 3) (planC bs l 3).length (cp 3)] 29)
    have HD3 := hid (HD0.out.low HB3.out)
    clear hb hr HP0 HP1 HB1 HB2 HBn HD0 hp ho HWf
    unfold fourV
    go_wp2_with fail
    generalize hw3 : w2.alloc (.cells #[.slice (A 0) (planC bs l 0).length (cp 0), .slice (A 1) (planC bs l 1).length (cp 1), .slice (A 2) (planC bs l 2).length (cp 2), .slice (A 3) (planC bs l 3).length (cp 3)] 29) = w3 at *
    refine (prnum_any _ _).mono ?_
    rintro e w' ⟨rfl, rfl⟩
    obtain ⟨x1, y1, h1⟩ := numV_two (numC (planC bs l) 1 n)
    obtain ⟨x2, y2, h2⟩ := numV_two (numC (planC bs l) 2 n)
    obtain ⟨x3, y3, h3⟩ := numV_two (lenC (planC bs l) n)
    have HL1 := hid (fun W (hW : PrAt W M (planC bs l)) => show Calls Try.prog _ _ W (RetV W (.tuple #[.int .i64 x1, .int .i64 y1])) from h1 ▸ (show Calls Try.prog _ _ W (RetV W (numV (numC (planC bs l) 1 n))) from prll_any W M (planC bs l) hW n))
    have HL2 := hid (fun W (hW : PrAt W M (planC bs l)) => show Calls Try.prog _ _ W (RetV W (.tuple #[.int .i64 x2, .int .i64 y2])) from h2 ▸ (show Calls Try.prog _ _ W (RetV W (numV (numC (planC bs l) 2 n))) from prov_any W M (planC bs l) hW n))
    have HL3 := hid (fun W (hW : PrAt W M (planC bs l)) => show Calls Try.prog _ _ W (RetV W (.tuple #[.int .i64 x3, .int .i64 y3])) from h3 ▸ (show Calls Try.prog _ _ W (RetV W (numV (lenC (planC bs l) n))) from prml_any W M (planC bs l) hW n hn.1 hn.2))
    have HR1 := hid (fun W (hW : RfAt W A cp (planC bs l)) => show Calls Try.prog _ _ W (RetV W (.tuple #[.int .i64 x1, .int .i64 y1])) from h1 ▸ rcount_any A cp (planC bs l) W hW n)
    have HR2 := hid (fun W (hW : RfAt W A cp (planC bs l)) => show Calls Try.prog _ _ W (RetV W (.tuple #[.int .i64 x2, .int .i64 y2])) from h2 ▸ roff_any A cp (planC bs l) W hW n)
    have HRl := hid (fun W (hW : RfAt W A cp (planC bs l)) => show Calls Try.prog _ _ W (RetV W (.tuple #[.int .i64 x3, .int .i64 y3])) from h3 ▸ rlen32_any A cp (planC bs l) W hW n hn.1 hn.2)
    have HLl := hid (fun W (hW : PrAt W M (planC bs l)) (hc : Cs W a2 (b2.map bv)) => prlits_any W M (planC bs l) hW a2 c2 b2 hb2l hc)
    have HRs := hid (fun W (hW : RfAt W A cp (planC bs l)) (hc : Cs W a2 (b2.map bv)) => rlits_any A cp (planC bs l) W hW a2 c2 b2 hb2l hc)
    unfold fourV at HR1 HR2 HRl HRs
    clear h1 h2 h3 hn hb2l
    generalize litsC (planC bs l) b2 = x at *
    go_wp2_with fail
    refine (HL1.out _ HP3.out).mono ?_
    rintro e w4 ⟨rfl, hb⟩
    have HB4 := hid (HB3.out.trans (hb.mono HB3.out.size))
    have HX4 := hid (HX3.out.below hb HX3.out.lt)
    have HP4 := hid (HP3.out.low hb)
    have HR4 := hid (HR3.out.low hb)
    have HD4 := hid (HD3.out.low hb)
    clear hb HB3 HX3 HP3 HR3 HD3
    go_wp2_with fail
    refine (HL2.out _ HP4.out).mono ?_
    rintro e w5 ⟨rfl, hb⟩
    have HB5 := hid (HB4.out.trans (hb.mono HB4.out.size))
    have HX5 := hid (HX4.out.below hb HX4.out.lt)
    have HP5 := hid (HP4.out.low hb)
    have HR5 := hid (HR4.out.low hb)
    have HD5 := hid (HD4.out.low hb)
    clear hb HB4 HX4 HP4 HR4 HD4
    go_wp2_with fail
    refine (HL3.out _ HP5.out).mono ?_
    rintro e w6 ⟨rfl, hb⟩
    have HB6 := hid (HB5.out.trans (hb.mono HB5.out.size))
    have HX6 := hid (HX5.out.below hb HX5.out.lt)
    have HP6 := hid (HP5.out.low hb)
    have HR6 := hid (HR5.out.low hb)
    have HD6 := hid (HD5.out.low hb)
    clear hb HB5 HX5 HP5 HR5 HD5
    have k0 := HX6.out.cell (k := 0) rfl
    have k1 := HX6.out.cell (k := 1) rfl
    have k2 := HX6.out.cell (k := 2) rfl
    have k3 := HX6.out.cell (k := 3) rfl
    go_wp2_with fail
    clear k0 k1 k2 k3
    refine (HR1.out _ HR6.out).mono ?_
    rintro e w7 ⟨rfl, hb⟩
    have HB7 := hid (HB6.out.trans (hb.mono HB6.out.size))
    have HX7 := hid (HX6.out.below hb HX6.out.lt)
    have HP7 := hid (HP6.out.low hb)
    have HR7 := hid (HR6.out.low hb)
    have HD7 := hid (HD6.out.low hb)
    clear hb HB6 HX6 HP6 HR6 HD6
    have k0 := HX7.out.cell (k := 0) rfl
    have k1 := HX7.out.cell (k := 1) rfl
    have k2 := HX7.out.cell (k := 2) rfl
    have k3 := HX7.out.cell (k := 3) rfl
    go_wp2_with fail
    clear k0 k1 k2 k3
    refine (HR2.out _ HR7.out).mono ?_
    rintro e w8 ⟨rfl, hb⟩
    have HB8 := hid (HB7.out.trans (hb.mono HB7.out.size))
    have HX8 := hid (HX7.out.below hb HX7.out.lt)
    have HP8 := hid (HP7.out.low hb)
    have HR8 := hid (HR7.out.low hb)
    have HD8 := hid (HD7.out.low hb)
    clear hb HB7 HX7 HP7 HR7 HD7
    have k0 := HX8.out.cell (k := 0) rfl
    have k1 := HX8.out.cell (k := 1) rfl
    have k2 := HX8.out.cell (k := 2) rfl
    have k3 := HX8.out.cell (k := 3) rfl
    go_wp2_with fail
    clear k0 k1 k2 k3
    refine (HRl.out _ HR8.out).mono ?_
    rintro e w9 ⟨rfl, hb⟩
    have HB9 := hid (HB8.out.trans (hb.mono HB8.out.size))
    have HX9 := hid (HX8.out.below hb HX8.out.lt)
    have HP9 := hid (HP8.out.low hb)
    have HR9 := hid (HR8.out.low hb)
    have HD9 := hid (HD8.out.low hb)
    clear hb HB8 HX8 HP8 HR8 HD8
    go_upto_region 15 with fail
    have hX9lt := HX9.out.lt
    have hb3 := Below.refl w9.heap.size w9
    refine wp_region_noPanic ?_
    refine wp_region_held_drew (S := fun W' => Below w9.heap.size w9 W') (by kernel_rfl) hb3.drew (fun hHeld => ?_)
    refine wpAnyH_take (i := 0) (v := .pointer (some ⟨M, 0, none⟩)) (by simp only [List.getElem?_toArray, List.getElem?_cons_zero]; rfl) (by kernel_rfl) (by kernel_rfl) (by kernel_rfl) (fun _ _ _ h => h) (Or.inl ⟨by rfl, fun W hSw => ?_⟩) (by assumption) ?_
    · clear hSw
      go_simp
    simp only [Act.put, List.setIfInBounds_toArray, List.set_cons_zero, List.set_cons_succ]
    refine wpAnyH_take (i := 1) (v := .slice a2 b2.length c2) (by simp only [List.getElem?_toArray, List.getElem?_cons_zero, List.getElem?_cons_succ]; rfl) (by kernel_rfl) (by kernel_rfl) (by kernel_rfl) (fun _ _ _ h => h) (Or.inl ⟨by rfl, fun W hSw => ?_⟩) (by assumption) ?_
    · clear hSw
      go_simp
    simp only [Act.put, List.setIfInBounds_toArray, List.set_cons_zero, List.set_cons_succ]
    refine wpAnyH_take (i := 3) (v := .agg #[.slice (A 0) (planC bs l 0).length (cp 0), .slice (A 1) (planC bs l 1).length (cp 1), .slice (A 2) (planC bs l 2).length (cp 2), .slice (A 3) (planC bs l 3).length (cp 3)]) (by simp only [List.getElem?_toArray, List.getElem?_cons_zero, List.getElem?_cons_succ]; rfl) (by kernel_rfl) (by kernel_rfl) (by kernel_rfl) (fun _ _ _ h => h) (Or.inl ⟨by rfl, fun W hSw => ?_⟩) (by assumption) ?_
    · have hcw0 := (hSw.cell (p := ⟨w2.heap.size, 0, none⟩) hX9lt).trans (HX9.out.cell (k := 0) rfl)
      have hcw1 := (hSw.cell (p := ⟨w2.heap.size, 1, none⟩) hX9lt).trans (HX9.out.cell (k := 1) rfl)
      have hcw2 := (hSw.cell (p := ⟨w2.heap.size, 2, none⟩) hX9lt).trans (HX9.out.cell (k := 2) rfl)
      have hcw3 := (hSw.cell (p := ⟨w2.heap.size, 3, none⟩) hX9lt).trans (HX9.out.cell (k := 3) rfl)
      go_simp
    simp only [Act.put, List.setIfInBounds_toArray, List.set_cons_zero, List.set_cons_succ]
    refine wpAnyH_take (i := 4) (v := .slice a2 b2.length c2) (by simp only [List.getElem?_toArray, List.getElem?_cons_zero, List.getElem?_cons_succ]; rfl) (by kernel_rfl) (by kernel_rfl) (by kernel_rfl) (fun _ _ _ h => h) (Or.inl ⟨by rfl, fun W hSw => ?_⟩) (by assumption) ?_
    · clear hSw
      go_simp
    simp only [Act.put, List.setIfInBounds_toArray, List.set_cons_zero, List.set_cons_succ]
    refine wpAnyH_ready (rs := [2]) (by kernel_rfl) (by simp) ?_
    refine AllReadyH.cons (by simp only [List.getElem?_toArray, List.getElem?_cons_zero, List.getElem?_cons_succ]; rfl) (fun K hK => ?_) AllReadyH.nil
    rw [if_pos (by rfl)]
    go_simp
    go_at_call 13
    refine (HLl.out _ (HP9.out.low hb3.drew) (HD9.out.low hb3.drew)).mono ?_
    rintro e w' ⟨rfl, rfl⟩
    dsimp only
    refine hK.out _ _ hb3.drew (fun _ => ?_)
    clear hK K
    refine wpAnyH_ready (rs := [5]) (by kernel_rfl) (by simp) ?_
    refine AllReadyH.cons (by simp only [List.getElem?_toArray, List.getElem?_cons_zero, List.getElem?_cons_succ]; rfl) (fun K hK => ?_) AllReadyH.nil
    rw [if_pos (by rfl)]
    go_simp
    go_at_call 14
    refine (HRs.out _ (HR9.out.low hb3.drew) (HD9.out.low hb3.drew)).mono ?_
    rintro e w10 ⟨rfl, hb⟩
    have hb4 := hb3.drew.trans (hb.mono hb3.drew.size)
    dsimp only
    refine hK.out _ _ hb4 (fun _ => ?_)
    clear hK K hb
    refine wpAnyH_take (i := 6) (v := .bool true) (by simp only [List.getElem?_toArray, List.getElem?_cons_zero, List.getElem?_cons_succ]; rfl) (by kernel_rfl) (by kernel_rfl) (by kernel_rfl) (fun _ _ _ h => h) (Or.inl ⟨by rfl, fun W hSw => ?_⟩) (by assumption) ?_
    · clear hSw
      go_simp
    simp only [Act.put, List.setIfInBounds_toArray, List.set_cons_zero, List.set_cons_succ]
    refine wpAnyH_take (i := 7) (v := .bool true) (by simp only [List.getElem?_toArray, List.getElem?_cons_zero, List.getElem?_cons_succ]; rfl) (by kernel_rfl) (by kernel_rfl) (by kernel_rfl) (fun _ _ _ h => h) (Or.inl ⟨by rfl, fun W hSw => ?_⟩) (by assumption) ?_
    · clear hSw
      go_simp
    simp only [Act.put, List.setIfInBounds_toArray, List.set_cons_zero, List.set_cons_succ]
    refine wpAnyH_take (i := 8) (v := .int .i64 x1) (by simp only [List.getElem?_toArray, List.getElem?_cons_zero, List.getElem?_cons_succ]; rfl) (by kernel_rfl) (by kernel_rfl) (by kernel_rfl) (fun _ _ _ h => h) (Or.inl ⟨by rfl, fun W hSw => ?_⟩) (by assumption) ?_
    · clear hSw
      go_simp
    simp only [Act.put, List.setIfInBounds_toArray, List.set_cons_zero, List.set_cons_succ]
    refine wpAnyH_take (i := 9) (v := .int .i64 y1) (by simp only [List.getElem?_toArray, List.getElem?_cons_zero, List.getElem?_cons_succ]; rfl) (by kernel_rfl) (by kernel_rfl) (by kernel_rfl) (fun _ _ _ h => h) (Or.inl ⟨by rfl, fun W hSw => ?_⟩) (by assumption) ?_
    · clear hSw
      go_simp
    simp only [Act.put, List.setIfInBounds_toArray, List.set_cons_zero, List.set_cons_succ]
    refine wpAnyH_take (i := 10) (v := .int .i64 x1) (by simp only [List.getElem?_toArray, List.getElem?_cons_zero, List.getElem?_cons_succ]; rfl) (by kernel_rfl) (by kernel_rfl) (by kernel_rfl) (fun _ _ _ h => h) (Or.inl ⟨by rfl, fun W hSw => ?_⟩) (by assumption) ?_
    · clear hSw
      go_simp
    simp only [Act.put, List.setIfInBounds_toArray, List.set_cons_zero, List.set_cons_succ]
    refine wpAnyH_take (i := 11) (v := .int .i64 y1) (by simp only [List.getElem?_toArray, List.getElem?_cons_zero, List.getElem?_cons_succ]; rfl) (by kernel_rfl) (by kernel_rfl) (by kernel_rfl) (fun _ _ _ h => h) (Or.inl ⟨by rfl, fun W hSw => ?_⟩) (by assumption) ?_
    · clear hSw
      go_simp
    simp only [Act.put, List.setIfInBounds_toArray, List.set_cons_zero, List.set_cons_succ]
    refine wpAnyH_ready (rs := [12]) (by kernel_rfl) (by simp) ?_
    refine AllReadyH.cons (by simp only [List.getElem?_toArray, List.getElem?_cons_zero, List.getElem?_cons_succ]; rfl) (fun K hK => ?_) AllReadyH.nil
    rw [if_pos (by rfl)]
    go_simp
    go_at_call 22
    refine (pris_yes _ _ _).mono ?_
    rintro e w' ⟨rfl, rfl⟩
    dsimp only
    refine hK.out _ _ hb4 (fun _ => ?_)
    clear hK K
    refine wpAnyH_take (i := 13) (v := .bool true) (by simp only [List.getElem?_toArray, List.getElem?_cons_zero, List.getElem?_cons_succ]; rfl) (by kernel_rfl) (by kernel_rfl) (by kernel_rfl) (fun _ _ _ h => h) (Or.inl ⟨by rfl, fun W hSw => ?_⟩) (by assumption) ?_
    · clear hSw
      go_simp
    simp only [Act.put, List.setIfInBounds_toArray, List.set_cons_zero, List.set_cons_succ]
    refine wpAnyH_take (i := 14) (v := .bool true) (by simp only [List.getElem?_toArray, List.getElem?_cons_zero, List.getElem?_cons_succ]; rfl) (by kernel_rfl) (by kernel_rfl) (by kernel_rfl) (fun _ _ _ h => h) (Or.inl ⟨by rfl, fun W hSw => ?_⟩) (by assumption) ?_
    · clear hSw
      go_simp
    simp only [Act.put, List.setIfInBounds_toArray, List.set_cons_zero, List.set_cons_succ]
    refine wpAnyH_take (i := 15) (v := .int .i64 x2) (by simp only [List.getElem?_toArray, List.getElem?_cons_zero, List.getElem?_cons_succ]; rfl) (by kernel_rfl) (by kernel_rfl) (by kernel_rfl) (fun _ _ _ h => h) (Or.inl ⟨by rfl, fun W hSw => ?_⟩) (by assumption) ?_
    · clear hSw
      go_simp
    simp only [Act.put, List.setIfInBounds_toArray, List.set_cons_zero, List.set_cons_succ]
    refine wpAnyH_take (i := 16) (v := .int .i64 y2) (by simp only [List.getElem?_toArray, List.getElem?_cons_zero, List.getElem?_cons_succ]; rfl) (by kernel_rfl) (by kernel_rfl) (by kernel_rfl) (fun _ _ _ h => h) (Or.inl ⟨by rfl, fun W hSw => ?_⟩) (by assumption) ?_
    · clear hSw
      go_simp
    simp only [Act.put, List.setIfInBounds_toArray, List.set_cons_zero, List.set_cons_succ]
    refine wpAnyH_take (i := 17) (v := .int .i64 x2) (by simp only [List.getElem?_toArray, List.getElem?_cons_zero, List.getElem?_cons_succ]; rfl) (by kernel_rfl) (by kernel_rfl) (by kernel_rfl) (fun _ _ _ h => h) (Or.inl ⟨by rfl, fun W hSw => ?_⟩) (by assumption) ?_
    · clear hSw
      go_simp
    simp only [Act.put, List.setIfInBounds_toArray, List.set_cons_zero, List.set_cons_succ]
    refine wpAnyH_take (i := 18) (v := .int .i64 y2) (by simp only [List.getElem?_toArray, List.getElem?_cons_zero, List.getElem?_cons_succ]; rfl) (by kernel_rfl) (by kernel_rfl) (by kernel_rfl) (fun _ _ _ h => h) (Or.inl ⟨by rfl, fun W hSw => ?_⟩) (by assumption) ?_
    · clear hSw
      go_simp
    simp only [Act.put, List.setIfInBounds_toArray, List.set_cons_zero, List.set_cons_succ]
    refine wpAnyH_ready (rs := [19]) (by kernel_rfl) (by simp) ?_
    refine AllReadyH.cons (by simp only [List.getElem?_toArray, List.getElem?_cons_zero, List.getElem?_cons_succ]; rfl) (fun K hK => ?_) AllReadyH.nil
    rw [if_pos (by rfl)]
    go_simp
    go_at_call 22
    refine (pris_yes _ _ _).mono ?_
    rintro e w' ⟨rfl, rfl⟩
    dsimp only
    refine hK.out _ _ hb4 (fun _ => ?_)
    clear hK K
    refine wpAnyH_take (i := 20) (v := .bool true) (by simp only [List.getElem?_toArray, List.getElem?_cons_zero, List.getElem?_cons_succ]; rfl) (by kernel_rfl) (by kernel_rfl) (by kernel_rfl) (fun _ _ _ h => h) (Or.inl ⟨by rfl, fun W hSw => ?_⟩) (by assumption) ?_
    · clear hSw
      go_simp
    simp only [Act.put, List.setIfInBounds_toArray, List.set_cons_zero, List.set_cons_succ]
    refine wpAnyH_take (i := 21) (v := .bool true) (by simp only [List.getElem?_toArray, List.getElem?_cons_zero, List.getElem?_cons_succ]; rfl) (by kernel_rfl) (by kernel_rfl) (by kernel_rfl) (fun _ _ _ h => h) (Or.inl ⟨by rfl, fun W hSw => ?_⟩) (by assumption) ?_
    · clear hSw
      go_simp
    simp only [Act.put, List.setIfInBounds_toArray, List.set_cons_zero, List.set_cons_succ]
    refine wpAnyH_take (i := 22) (v := .int .i64 x3) (by simp only [List.getElem?_toArray, List.getElem?_cons_zero, List.getElem?_cons_succ]; rfl) (by kernel_rfl) (by kernel_rfl) (by kernel_rfl) (fun _ _ _ h => h) (Or.inl ⟨by rfl, fun W hSw => ?_⟩) (by assumption) ?_
    · clear hSw
      go_simp
    simp only [Act.put, List.setIfInBounds_toArray, List.set_cons_zero, List.set_cons_succ]
    refine wpAnyH_take (i := 23) (v := .int .i64 y3) (by simp only [List.getElem?_toArray, List.getElem?_cons_zero, List.getElem?_cons_succ]; rfl) (by kernel_rfl) (by kernel_rfl) (by kernel_rfl) (fun _ _ _ h => h) (Or.inl ⟨by rfl, fun W hSw => ?_⟩) (by assumption) ?_
    · clear hSw
      go_simp
    simp only [Act.put, List.setIfInBounds_toArray, List.set_cons_zero, List.set_cons_succ]
    refine wpAnyH_take (i := 24) (v := .int .i64 x3) (by simp only [List.getElem?_toArray, List.getElem?_cons_zero, List.getElem?_cons_succ]; rfl) (by kernel_rfl) (by kernel_rfl) (by kernel_rfl) (fun _ _ _ h => h) (Or.inl ⟨by rfl, fun W hSw => ?_⟩) (by assumption) ?_
    · clear hSw
      go_simp
    simp only [Act.put, List.setIfInBounds_toArray, List.set_cons_zero, List.set_cons_succ]
    refine wpAnyH_take (i := 25) (v := .int .i64 y3) (by simp only [List.getElem?_toArray, List.getElem?_cons_zero, List.getElem?_cons_succ]; rfl) (by kernel_rfl) (by kernel_rfl) (by kernel_rfl) (fun _ _ _ h => h) (Or.inl ⟨by rfl, fun W hSw => ?_⟩) (by assumption) ?_
    · clear hSw
      go_simp
    simp only [Act.put, List.setIfInBounds_toArray, List.set_cons_zero, List.set_cons_succ]
    refine wpAnyH_ready (rs := [26]) (by kernel_rfl) (by simp) ?_
    refine AllReadyH.cons (by simp only [List.getElem?_toArray, List.getElem?_cons_zero, List.getElem?_cons_succ]; rfl) (fun K hK => ?_) AllReadyH.nil
    rw [if_pos (by rfl)]
    go_simp
    go_at_call 22
    refine (pris_yes _ _ _).mono ?_
    rintro e w' ⟨rfl, rfl⟩
    dsimp only
    refine hK.out _ _ hb4 (fun _ => ?_)
    clear hK K
    refine wpAnyH_take (i := 27) (v := .bool true) (by simp only [List.getElem?_toArray, List.getElem?_cons_zero, List.getElem?_cons_succ]; rfl) (by kernel_rfl) (by kernel_rfl) (by kernel_rfl) (fun _ _ _ h => h) (Or.inl ⟨by rfl, fun W hSw => ?_⟩) (by assumption) ?_
    · clear hSw
      go_simp
    simp only [Act.put, List.setIfInBounds_toArray, List.set_cons_zero, List.set_cons_succ]
    refine wpAnyH_take (i := 28) (v := .bool true) (by simp only [List.getElem?_toArray, List.getElem?_cons_zero, List.getElem?_cons_succ]; rfl) (by kernel_rfl) (by kernel_rfl) (by kernel_rfl) (fun _ _ _ h => h) (Or.inl ⟨by rfl, fun W hSw => ?_⟩) (by assumption) ?_
    · clear hSw
      go_simp
    simp only [Act.put, List.setIfInBounds_toArray, List.set_cons_zero, List.set_cons_succ]
    refine wpAnyH_ready (rs := [29]) (by kernel_rfl) (by simp) ?_
    refine AllReadyH.cons (by simp only [List.getElem?_toArray, List.getElem?_cons_zero, List.getElem?_cons_succ]; rfl) (fun K hK => ?_) AllReadyH.nil
    rw [if_pos (by rfl)]
    go_simp
    go_at_call 11
    refine (HW.out _).mono ?_
    rintro e w11 ⟨rfl, hb⟩
    have hb5 := hb4.trans (hb.mono hb4.size)
    dsimp only
    refine hK.out _ _ hb5 (fun _ => ?_)
    clear hK K hb
    refine wpAnyH_take (i := 30) (v := .bool true) (by simp only [List.getElem?_toArray, List.getElem?_cons_zero, List.getElem?_cons_succ]; rfl) (by kernel_rfl) (by kernel_rfl) (by kernel_rfl) (fun _ _ _ h => h) (Or.inl ⟨by rfl, fun W hSw => ?_⟩) (by assumption) ?_
    · clear hSw
      go_simp
    simp only [Act.put, List.setIfInBounds_toArray, List.set_cons_zero, List.set_cons_succ]
    refine wpAnyH_ready (rs := [31]) (by kernel_rfl) (by simp) ?_
    refine AllReadyH.cons (by simp only [List.getElem?_toArray, List.getElem?_cons_zero, List.getElem?_cons_succ]; rfl) (fun K hK => ?_) AllReadyH.nil
    rw [if_pos (by rfl)]
    go_simp
    refine hK.out _ _ hb5 (fun _ => ?_)
    clear hK K
    refine wpAnyH_done (by kernel_rfl) ?_ _
    refine NoPanic.normal ?_
    go_wp2
    go_ret
    exact ⟨rfl, HB9.out.trans (hb5.mono HB9.out.size)⟩
end Go.Proofs.Ytolmmfbgljgdcaa
namespace Go.Proofs.Ytolmmfbgljgdcaa.LPriceOf
open Go.ChangeShapes Go.WideShapes Go.ChangeAt Go.RowKit Go.Port

set_option maxRecDepth 100000 in
theorem lifted (os : Os) (started : os.Started) (H : Type) (enc : TypeId × Value → H) :
    ReturnsInHanded {} Try.checked os 6 .any (Rows.priceOfSpec.pre6 enc Try.prog Try.f6 Rows.priceOfRow.domain false) (Rows.priceOfSpec.post enc Try.prog Try.f6 false true false false) := by
  refine returnsInHanded_of_change (C := Try.checked) Try.own started (by kernel_rfl) Try.func6
    (ChangeSpec.witness6 (enc := enc) (C := Try.checked) false ⟨#[], #[.slice none 0 0, .slice none 0 0, .slice none 0 0, .int .i64 0], []⟩ 8 (by kernel_rfl) (by kernel_rfl) (by kernel_rfl) (by kernel_rfl)) ?_
  intro W base args ds gs before hval0 hW hcnd _
  have hval : ∀ (j : Nat) t v, Try.f6.params[j]? = some t → args[j]? = some v → Value.okWide Try.prog W .any base t v := hval0
  have hW' := hW
  obtain ⟨p, q, hA0, hV, rfl, hfz, hnd⟩ := hW
  have hA : DataW.TrodAll enc Try.prog W 0 (fun _ => true) true Try.f6.params.toList args.toList ds p := hA0
  rw [Try.params6] at hA hval
  obtain ⟨v0, vs0, d0, ds0, p0, q0, hargs, rfl, rfl, h0, r0⟩ := trodAll_cons hA
  obtain ⟨v1, vs1, d1, ds1, p1, q1, rfl, rfl, rfl, h1, r1⟩ := trodAll_cons r0
  obtain ⟨v2, vs2, d2, ds2, p2, q2, rfl, rfl, rfl, h2, r2⟩ := trodAll_cons r1
  obtain ⟨v3, vs3, d3, ds3, p3, q3, rfl, rfl, rfl, h3, r3⟩ := trodAll_cons r2
  obtain ⟨rfl, rfl, rfl⟩ := trodAll_nil r3
  obtain rfl : args = #[v0, v1, v2, v3] := by cases args; simp_all
  obtain ⟨rfl, rfl⟩ := trodVars_none hV
  obtain ⟨l0, hl0, wl0⟩ := open_rowV Try.underlying24 Try.underlying5 (by kernel_rfl) (hval 0 24 v0 rfl rfl) h0
  obtain ⟨bs0, hbs0, hn0⟩ := bytes_of wl0
  rw [hbs0, ← hn0] at hl0
  obtain ⟨l1, hl1, wl1⟩ := open_seqs (hval 1 46 v1 rfl rfl) h1
  obtain ⟨l2, hl2, wl2⟩ := open_rowV Try.underlying24 Try.underlying5 (by kernel_rfl) (hval 2 24 v2 rfl rfl) h2
  obtain ⟨bs2, hbs2, hn2⟩ := bytes_of wl2
  rw [hbs2, ← hn2] at hl2
  obtain ⟨a3, rfl, rfl, rfl, w3⟩ := open_int Try.underlying3 (hval 3 3 v3 rfl rfl) h3
  clear hA0 hval0
  simp only [List.append_nil] at hW'
  refine (PriceOf_walk W v0 bs0 hl0 v1 l1 hl1 wl1 v2 bs2 hl2 a3 (bounds_i64 w3)).mono fun e W' ⟨he, hb⟩ => ?_
  subst he
  exact ⟨_, rfl, law_post Try.kids Try.full Try.underlying4 rfl rfl hW' (by rw [Try.params6]; decide) rfl rfl rfl hb⟩

theorem over : Rows.priceOfRow.holds Try.pinned (OpenSpec.ofChange Rows.priceOfSpec) :=
  OpenClaim.holds_of_wide 6 Try.f6 rfl rfl rfl rfl rfl rfl rfl ⟨rfl, rfl, rfl, rfl, rfl⟩ rfl rfl rfl rfl rfl (by kernel_rfl) Try.func6 (by kernel_rfl)
    (of_decide_eq_true (by kernel_rfl)) (by unfold Func.isWrapper; first | (rw [if_pos (by decide +kernel)]; kernel_rfl) | (rw [if_neg (by decide +kernel)]; exact ⟨rfl, rfl⟩))
    (fun os started H enc _ => lifted os started H enc)

/-- The statement. -/
theorem proved : Rows.PriceOfSaid :=
  over
end Go.Proofs.Ytolmmfbgljgdcaa.LPriceOf
