/-
  The law BestFrom: for any such scene and any index, ParseFrom returns the least cost and a plan of it from the index on, and an error for an index outside the data. No condition.
-/
import Derived.Test.YtiagbejfghincaaGreatY42
import Derived.Test.YtiagbejfghincaaGreatY46
namespace Go.Proofs.YtiagbejfghincaaGreat
open Go.RowKit Go.Port
attribute [local go_sem] Oper.semAt_some
set_option maxRecDepth 100000 in
set_option maxHeartbeats 8000000 in
theorem BestFrom_walk (w : World) (a1 : Option Addr) (c1 : Nat) (H : List UInt8) (a2 : Option Addr) (c2 : Nat) (Dt : List UInt8) (Wd D : Int) (Ar : Nat → Option Addr) (cp : Nat → Nat) (C : Nat → List Int) (hs : SceneAt w a1 c1 H a2 c2 Dt Ar cp C) (at0 : Int) (hat : -9223372036854775808 ≤ at0 ∧ at0 ≤ 9223372036854775807) :
    Calls Tryz.prog 6 #[sceneV a1 H.length c1 a2 Dt.length c2 Wd D Ar cp C, .int .i64 at0] w (RetV w (.bool true)) := by
  have HW := hid works33_any
  have hX := Blk.new w [.slice a1 H.length c1, .slice a2 Dt.length c2, .int .i64 Wd, .int .i64 D, .slice (Ar 0) (C 0).length (cp 0), .slice (Ar 1) (C 1).length (cp 1), .slice (Ar 2) (C 2).length (cp 2), .slice (Ar 3) (C 3).length (cp 3)] 26
  have hb0 := below_new w (.cells #[.slice a1 H.length c1, .slice a2 Dt.length c2, .int .i64 Wd, .int .i64 D, .slice (Ar 0) (C 0).length (cp 0), .slice (Ar 1) (C 1).length (cp 1), .slice (Ar 2) (C 2).length (cp 2), .slice (Ar 3) (C 3).length (cp 3)] 26)
  have HM := hid (made33_any a1 a2 c1 c2 H Dt Wd D Ar cp C (w.alloc (.cells #[.slice a1 H.length c1, .slice a2 Dt.length c2, .int .i64 Wd, .int .i64 D, .slice (Ar 0) (C 0).length (cp 0), .slice (Ar 1) (C 1).length (cp 1), .slice (Ar 2) (C 2).length (cp 2), .slice (Ar 3) (C 3).length (cp 3)] 26)) (hs.low hb0))
  have HS0 := hid (hs.low hb0)
  have HX0 := hid hX
  have HB0 := hid hb0
  have x0 := hX.cell (k := 0) rfl
  have x1 := hX.cell (k := 1) rfl
  have x2 := hX.cell (k := 2) rfl
  have x3 := hX.cell (k := 3) rfl
  have x4 := hX.cell (k := 4) rfl
  have x5 := hX.cell (k := 5) rfl
  have x6 := hX.cell (k := 6) rfl
  have x7 := hX.cell (k := 7) rfl
  generalize hbs : H ++ Dt = bs at HM
  unfold sceneV at HM ⊢
  clear hs hX hb0
  go_enter Tryz.func6, Tryz.ntmps6
  go_wp2_with fail
  clear x0 x1 x2 x3 x4 x5 x6 x7
  generalize w.alloc (.cells #[.slice a1 H.length c1, .slice a2 Dt.length c2, .int .i64 Wd, .int .i64 D, .slice (Ar 0) (C 0).length (cp 0), .slice (Ar 1) (C 1).length (cp 1), .slice (Ar 2) (C 2).length (cp 2), .slice (Ar 3) (C 3).length (cp 3)] 26) = w0 at *
  refine HM.out.mono ?_
  rintro e w1 (⟨rfl, hb1⟩ | ⟨hok, F, M, ar, cr, rfl, hF, hM, hC, hcr, hb1⟩)
  · have HB1 := hid ((HB0.out.trans (hb1.mono HB0.out.size)).alloc (HB0.out.trans (hb1.mono HB0.out.size)).size (.cells #[.pointer none, .pointer none, .slice none 0 0, .int .i64 0, .int .i64 0, .int .i64 0, .slice none 0 0, .slice none 0 0, .slice none 0 0, .slice none 0 0] 34))
    clear hb1 HM hbs HS0 HX0
    go_wp2_with (go_at_call 12; refine (HW.out _).mono ?_; rintro e w' ⟨rfl, hb⟩)
    go_ret
    exact ⟨rfl, HB1.out.trans (hb.mono HB1.out.size)⟩
  obtain ⟨g1, g2, g3, g4, g5⟩ := hok
  have hdr : bs.drop H.length = Dt := by rw [← hbs, List.drop_left]
  have hbl : bs.length ≤ 200 := by rw [← hbs, List.length_append]; omega
  have hbn := below_new w1 (.cells #[.pointer (some ⟨F, 0, none⟩), .pointer (some ⟨M, 0, none⟩), .slice ar bs.length cr, .int .i64 (H.length : Int), .int .i64 Wd, .int .i64 D, .slice (Ar 0) (C 0).length (cp 0), .slice (Ar 1) (C 1).length (cp 1), .slice (Ar 2) (C 2).length (cp 2), .slice (Ar 3) (C 3).length (cp 3)] 34)
  have hb2 := hb1.trans (hbn.mono hb1.size)
  have HE2 := hid (BestAt.low (⟨hF, hM, hC, ⟨HS0.out.hf.low hb1, g5⟩, hcr, hbl⟩ : BestAt w1 bs H.length Wd D F M ar cr Ar cp C) hbn)
  have HV2 := hid (Blk.new w1 [.pointer (some ⟨F, 0, none⟩), .pointer (some ⟨M, 0, none⟩), .slice ar bs.length cr, .int .i64 (H.length : Int), .int .i64 Wd, .int .i64 D, .slice (Ar 0) (C 0).length (cp 0), .slice (Ar 1) (C 1).length (cp 1), .slice (Ar 2) (C 2).length (cp 2), .slice (Ar 3) (C 3).length (cp 3)] 34)
  have HX2 := hid (HX0.out.below hb2 HX0.out.lt)
  have HS2 := hid (HS0.out.low hb2)
  have HB2 := hid (HB0.out.trans (hb2.mono HB0.out.size))
  have HDr := hid hdr
  have HN := hid (show (bs.drop H.length).length = Dt.length from by rw [hdr])
  have hd100 : Dt.length ≤ 100 := g2
  clear g1 g2 g3 g4 g5 hdr hbl hbn hb2 hb1 hF hM hC hcr HM HS0 HX0 HB0 hbs
  go_upto_region 4 with fail
  generalize w1.alloc (.cells #[.pointer (some ⟨F, 0, none⟩), .pointer (some ⟨M, 0, none⟩), .slice ar bs.length cr, .int .i64 (H.length : Int), .int .i64 Wd, .int .i64 D, .slice (Ar 0) (C 0).length (cp 0), .slice (Ar 1) (C 1).length (cp 1), .slice (Ar 2) (C 2).length (cp 2), .slice (Ar 3) (C 3).length (cp 3)] 34) = w2 at *
  generalize w1.heap.size = Q at *
  have b0 := HV2.out.cell (k := 0) rfl
  have b1 := HV2.out.cell (k := 1) rfl
  have b2 := HV2.out.cell (k := 2) rfl
  have b3 := HV2.out.cell (k := 3) rfl
  have b4 := HV2.out.cell (k := 4) rfl
  have b5 := HV2.out.cell (k := 5) rfl
  have b6 := HV2.out.cell (k := 6) rfl
  have b7 := HV2.out.cell (k := 7) rfl
  have b8 := HV2.out.cell (k := 8) rfl
  have b9 := HV2.out.cell (k := 9) rfl
  have x0 := HX2.out.cell (k := 0) rfl
  have x1 := HX2.out.cell (k := 1) rfl
  have x2 := HX2.out.cell (k := 2) rfl
  have x3 := HX2.out.cell (k := 3) rfl
  have x4 := HX2.out.cell (k := 4) rfl
  have x5 := HX2.out.cell (k := 5) rfl
  have x6 := HX2.out.cell (k := 6) rfl
  have x7 := HX2.out.cell (k := 7) rfl
  by_cases hin : 0 ≤ at0 ∧ at0 ≤ (Dt.length : Int)
  rotate_left
  · have hfar := bpf_far bs H.length Wd D F M C w2 HE2.out.fd HE2.out.pr HE2.out.ch at0 (by rw [HN.out]; omega)
    have HFar := hid hfar
    clear hfar
    go_wp2_with fail
    refine HFar.out.mono ?_
    rintro e w3 ⟨rfl, hb3⟩
    have HE3 := hid (HE2.out.low hb3)
    have HV3 := hid (HV2.out.below hb3 HV2.out.lt)
    have HX3 := hid (HX2.out.below hb3 HX2.out.lt)
    have HS3 := hid (HS2.out.low hb3)
    have HB3 := hid (HB2.out.trans (hb3.mono HB2.out.size))
    clear HE2 HV2 HX2 HS2 HB2
    clear hb3 HFar
    clear b0 b1 b2 b3 b4 b5 b6 b7 b8 b9
    clear x0 x1 x2 x3 x4 x5 x6 x7
    have b0 := HV3.out.cell (k := 0) rfl
    have b1 := HV3.out.cell (k := 1) rfl
    have b2 := HV3.out.cell (k := 2) rfl
    have b3 := HV3.out.cell (k := 3) rfl
    have b4 := HV3.out.cell (k := 4) rfl
    have b5 := HV3.out.cell (k := 5) rfl
    have b6 := HV3.out.cell (k := 6) rfl
    have b7 := HV3.out.cell (k := 7) rfl
    have b8 := HV3.out.cell (k := 8) rfl
    have b9 := HV3.out.cell (k := 9) rfl
    have x0 := HX3.out.cell (k := 0) rfl
    have x1 := HX3.out.cell (k := 1) rfl
    have x2 := HX3.out.cell (k := 2) rfl
    have x3 := HX3.out.cell (k := 3) rfl
    have x4 := HX3.out.cell (k := 4) rfl
    have x5 := HX3.out.cell (k := 5) rfl
    have x6 := HX3.out.cell (k := 6) rfl
    have x7 := HX3.out.cell (k := 7) rfl
    by_cases hn0 : at0 < 0
    · go_wp2_with (first | (go_at_call 17; refine (num33_any _ _).mono ?_; rintro e w' ⟨rfl, rfl⟩) | (go_at_call 12; refine (HW.out _).mono ?_; rintro e w' ⟨rfl, hb⟩))
      go_ret
      exact ⟨rfl, HB3.out.trans (hb.mono HB3.out.size)⟩
    · have hn1 : (Dt.length : Int) < at0 := by omega
      go_wp2_with (first | (go_at_call 17; refine (num33_any _ _).mono ?_; rintro e w' ⟨rfl, rfl⟩) | (go_at_call 12; refine (HW.out _).mono ?_; rintro e w' ⟨rfl, hb⟩))
      go_ret
      exact ⟨rfl, HB3.out.trans (hb.mono HB3.out.size)⟩
  obtain ⟨p, rfl⟩ : ∃ p : Nat, at0 = (p : Int) := ⟨at0.toNat, by omega⟩
  have hpn : p ≤ Dt.length := by omega
  have hpb : p ≤ (bs.drop H.length).length := by rw [HN.out]; exact hpn
  have hp0 : ¬ (p : Int) < 0 := by omega
  have hp1 : ¬ (Dt.length : Int) < (p : Int) := by omega
  have hp2 : (p : Int) < (Dt.length : Int) + 1 := by omega
  have HPb := hid hpb
  go_wp2_with fail
  refine (HE2.out.from' HPb.out).mono ?_
  rintro e w3 ⟨al, cl, rfl, hlc, hcl, hb3⟩
  have HE3 := hid (HE2.out.low hb3)
  have HV3 := hid (HV2.out.below hb3 HV2.out.lt)
  have HX3 := hid (HX2.out.below hb3 HX2.out.lt)
  have HS3 := hid (HS2.out.low hb3)
  have HB3 := hid (HB2.out.trans (hb3.mono HB2.out.size))
  clear HE2 HV2 HX2 HS2 HB2
  have HL3 := hid (And.intro hlc hcl)
  clear hb3 hlc hcl hpb
  clear b0 b1 b2 b3 b4 b5 b6 b7 b8 b9
  clear x0 x1 x2 x3 x4 x5 x6 x7
  have b0 := HV3.out.cell (k := 0) rfl
  have b1 := HV3.out.cell (k := 1) rfl
  have b2 := HV3.out.cell (k := 2) rfl
  have b3 := HV3.out.cell (k := 3) rfl
  have b4 := HV3.out.cell (k := 4) rfl
  have b5 := HV3.out.cell (k := 5) rfl
  have b6 := HV3.out.cell (k := 6) rfl
  have b7 := HV3.out.cell (k := 7) rfl
  have b8 := HV3.out.cell (k := 8) rfl
  have b9 := HV3.out.cell (k := 9) rfl
  have x0 := HX3.out.cell (k := 0) rfl
  have x1 := HX3.out.cell (k := 1) rfl
  have x2 := HX3.out.cell (k := 2) rfl
  have x3 := HX3.out.cell (k := 3) rfl
  have x4 := HX3.out.cell (k := 4) rfl
  have x5 := HX3.out.cell (k := 5) rfl
  have x6 := HX3.out.cell (k := 6) rfl
  have x7 := HX3.out.cell (k := 7) rfl
  have hlp : ((bs.drop H.length).drop p).length = Dt.length - p := by rw [HDr.out, List.length_drop]
  have hpd := HE3.out.pd HPb.out (w := w3) (al := al) (cl := cl) HL3.out.1 HL3.out.2 (ad := cutA a2 c2 p 1) (c := c2 - p) (Nat.le_trans (Nat.sub_le _ _) (Nat.le_trans HS3.out.hm (by decide))) (by rw [hlp]; have := HS3.out.h2; omega) (cutA_none HS3.out.h4) (by
    have h := cutA_cs (W := w3) HS3.out.hc2 c2 p 1 (by rw [List.length_map]; have := HS3.out.h2; omega) Dt.length
    rw [Nat.mul_one, ← List.map_drop, List.take_of_length_le (by rw [List.length_map, List.length_drop]; omega)] at h
    rw [HDr.out]
    exact h)
  have HPl := hid (fun W (hW : Below w3.heap.size w3 W) => (HE3.out.low hW).plan HPb.out (al := al) (cl := cl) (hpd.low hW))
  rw [hlp] at HPl
  have hk1 := cut_u8_lo a2 Dt.length c2 p hpn
  have hk2 := cut_u8_loAt a2 Dt.length c2 p hpn
  clear hpd hlp
  go_wp2_with fail
  clear b0 b1 b2 b3 b4 b5 b6 b7 b8 b9
  clear x0 x1 x2 x3 x4 x5 x6 x7
  refine wp_region_noPanic ?_
  refine wp_region_held_drew (S := (fun W' => Below w3.heap.size w3 W')) (by kernel_rfl) (Below.refl _ _).drew (fun hHeld => ?_)
  refine wpAnyH_take (i := 0) (v := .pointer (some ⟨Q, 6, none⟩)) (by simp only [List.getElem?_toArray, List.getElem?_cons_zero]; rfl) (by kernel_rfl) (by kernel_rfl) (by kernel_rfl) (fun _ _ _ h => h) (Or.inl ⟨by rfl, fun W hSw => ?_⟩) (by assumption) ?_
  · clear hSw
    go_simp
  simp only [Act.put, List.setIfInBounds_toArray, List.set_cons_zero, List.set_cons_succ]
  refine wpAnyH_take (i := 1) (v := .agg #[.slice (Ar 0) (C 0).length (cp 0), .slice (Ar 1) (C 1).length (cp 1), .slice (Ar 2) (C 2).length (cp 2), .slice (Ar 3) (C 3).length (cp 3)]) (by simp only [List.getElem?_toArray, List.getElem?_cons_zero, List.getElem?_cons_succ]; rfl) (by kernel_rfl) (by kernel_rfl) (by kernel_rfl) (fun _ _ _ h => h) (Or.inl ⟨by rfl, fun W hSw => ?_⟩) (by assumption) ?_
  · have hP := HV3.out.below hSw HV3.out.lt
    clear hSw
    have cc6 := hP.cell (k := 6) rfl
    have cc7 := hP.cell (k := 7) rfl
    have cc8 := hP.cell (k := 8) rfl
    have cc9 := hP.cell (k := 9) rfl
    clear hP
    go_simp
  simp only [Act.put, List.setIfInBounds_toArray, List.set_cons_zero, List.set_cons_succ]
  refine wpAnyH_take (i := 2) (v := .pointer (some ⟨w.heap.size, 1, none⟩)) (by simp only [List.getElem?_toArray, List.getElem?_cons_zero, List.getElem?_cons_succ]; rfl) (by kernel_rfl) (by kernel_rfl) (by kernel_rfl) (fun _ _ _ h => h) (Or.inl ⟨by rfl, fun W hSw => ?_⟩) (by assumption) ?_
  · clear hSw
    go_simp
  simp only [Act.put, List.setIfInBounds_toArray, List.set_cons_zero, List.set_cons_succ]
  refine wpAnyH_take (i := 3) (v := .slice a2 Dt.length c2) (by simp only [List.getElem?_toArray, List.getElem?_cons_zero, List.getElem?_cons_succ]; rfl) (by kernel_rfl) (by kernel_rfl) (by kernel_rfl) (fun _ _ _ h => h) (Or.inl ⟨by rfl, fun W hSw => ?_⟩) (by assumption) ?_
  · have cc := (HX3.out.below hSw HX3.out.lt).cell (k := 1) rfl
    clear hSw
    go_simp
  simp only [Act.put, List.setIfInBounds_toArray, List.set_cons_zero, List.set_cons_succ]
  refine wpAnyH_take (i := 4) (v := .int .i64 (p : Int)) (by simp only [List.getElem?_toArray, List.getElem?_cons_zero, List.getElem?_cons_succ]; rfl) (by kernel_rfl) (by kernel_rfl) (by kernel_rfl) (fun _ _ _ h => h) (Or.inl ⟨by rfl, fun W hSw => ?_⟩) (by assumption) ?_
  · clear hSw
    go_simp
  simp only [Act.put, List.setIfInBounds_toArray, List.set_cons_zero, List.set_cons_succ]
  refine wpAnyH_take (i := 5) (v := .slice (cutA a2 c2 p 1) (Dt.length - p) (c2 - p)) (by simp only [List.getElem?_toArray, List.getElem?_cons_zero, List.getElem?_cons_succ]; rfl) (by kernel_rfl) (by kernel_rfl) (by kernel_rfl) (fun _ _ _ h => h) (Or.inl ⟨by rfl, fun W hSw => ?_⟩) (by assumption) ?_
  · clear hSw
    go_simp
  simp only [Act.put, List.setIfInBounds_toArray, List.set_cons_zero, List.set_cons_succ]
  refine wpAnyH_take (i := 6) (v := .slice al (planF C bs H.length Wd D p).length cl) (by simp only [List.getElem?_toArray, List.getElem?_cons_zero, List.getElem?_cons_succ]; rfl) (by kernel_rfl) (by kernel_rfl) (by kernel_rfl) (fun _ _ _ h => h) (Or.inl ⟨by rfl, fun W hSw => ?_⟩) (by assumption) ?_
  · clear hSw
    go_simp
  simp only [Act.put, List.setIfInBounds_toArray, List.set_cons_zero, List.set_cons_succ]
  have hbd : Below w3.heap.size w3 w3.drew := (Below.refl _ _).drew
  generalize w3.drew = wd at *
  refine wpAnyH_ready (rs := [7]) (by kernel_rfl) (by simp) ?_
  refine AllReadyH.cons (by simp only [List.getElem?_toArray, List.getElem?_cons_zero, List.getElem?_cons_succ]; rfl) (fun K hK => ?_) AllReadyH.nil
  rw [if_pos (by rfl)]
  go_simp
  go_at_call 19
  refine (HPl.out _ hbd).mono ?_
  rintro e w4 ⟨rfl, hb4⟩
  have hbe := hbd.trans (hb4.mono hbd.size)
  dsimp only
  refine hK.out _ _ hbe (fun _ => ?_)
  clear hK K hb4 hbd
  refine wpAnyH_take (i := 8) (v := .tuple #[.int .i64 (costF C bs H.length Wd D p), .int .i64 0]) (by simp only [List.getElem?_toArray, List.getElem?_cons_zero, List.getElem?_cons_succ]; rfl) (by kernel_rfl) (by kernel_rfl) (by kernel_rfl) (fun _ _ _ h => h) (Or.inl ⟨by rfl, fun W hSw => ?_⟩) (by assumption) ?_
  · clear hSw
    go_simp
  simp only [Act.put, List.setIfInBounds_toArray, List.set_cons_zero, List.set_cons_succ]
  refine wpAnyH_take (i := 9) (v := .int .i64 (costF C bs H.length Wd D p)) (by simp only [List.getElem?_toArray, List.getElem?_cons_zero, List.getElem?_cons_succ]; rfl) (by kernel_rfl) (by kernel_rfl) (by kernel_rfl) (fun _ _ _ h => h) (Or.inl ⟨by rfl, fun W hSw => ?_⟩) (by assumption) ?_
  · clear hSw
    go_simp
  simp only [Act.put, List.setIfInBounds_toArray, List.set_cons_zero, List.set_cons_succ]
  refine wpAnyH_take (i := 10) (v := .int .i64 0) (by simp only [List.getElem?_toArray, List.getElem?_cons_zero, List.getElem?_cons_succ]; rfl) (by kernel_rfl) (by kernel_rfl) (by kernel_rfl) (fun _ _ _ h => h) (Or.inl ⟨by rfl, fun W hSw => ?_⟩) (by assumption) ?_
  · clear hSw
    go_simp
  simp only [Act.put, List.setIfInBounds_toArray, List.set_cons_zero, List.set_cons_succ]
  refine wpAnyH_ready (rs := [11]) (by kernel_rfl) (by simp) ?_
  refine AllReadyH.cons (by simp only [List.getElem?_toArray, List.getElem?_cons_zero, List.getElem?_cons_succ]; rfl) (fun K hK => ?_) AllReadyH.nil
  rw [if_pos (by rfl)]
  go_simp
  refine hK.out _ _ hbe (fun _ => ?_)
  clear hK K
  refine wpAnyH_ready (rs := [12]) (by kernel_rfl) (by simp) ?_
  refine AllReadyH.cons (by simp only [List.getElem?_toArray, List.getElem?_cons_zero, List.getElem?_cons_succ]; rfl) (fun K hK => ?_) AllReadyH.nil
  rw [if_pos (by rfl)]
  go_simp
  refine hK.out _ _ hbe (fun _ => ?_)
  clear hK K
  refine wpAnyH_done (by kernel_rfl) ?_ _
  refine NoPanic.normal ?_
  have hb4 := hbe
  clear hbe hHeld HPl hk1 hk2
  have HE4 := hid (HE3.out.low hb4)
  have HV4 := hid (HV3.out.below hb4 HV3.out.lt)
  have HX4 := hid (HX3.out.below hb4 HX3.out.lt)
  have HS4 := hid (HS3.out.low hb4)
  have HB4 := hid (HB3.out.trans (hb4.mono HB3.out.size))
  clear HE3 HV3 HX3 HS3 HB3
  have HL4 := hid (HL3.out.2.low hb4)
  clear hb4
  have b0 := HV4.out.cell (k := 0) rfl
  have b1 := HV4.out.cell (k := 1) rfl
  have b2 := HV4.out.cell (k := 2) rfl
  have b3 := HV4.out.cell (k := 3) rfl
  have b4 := HV4.out.cell (k := 4) rfl
  have b5 := HV4.out.cell (k := 5) rfl
  have b6 := HV4.out.cell (k := 6) rfl
  have b7 := HV4.out.cell (k := 7) rfl
  have b8 := HV4.out.cell (k := 8) rfl
  have b9 := HV4.out.cell (k := 9) rfl
  have x0 := HX4.out.cell (k := 0) rfl
  have x1 := HX4.out.cell (k := 1) rfl
  have x2 := HX4.out.cell (k := 2) rfl
  have x3 := HX4.out.cell (k := 3) rfl
  have x4 := HX4.out.cell (k := 4) rfl
  have x5 := HX4.out.cell (k := 5) rfl
  have x6 := HX4.out.cell (k := 6) rfl
  have x7 := HX4.out.cell (k := 7) rfl
  go_wp2_with (go_at_call 17; refine (num33_any _ _).mono ?_; rintro e w' ⟨rfl, rfl⟩)
  have hco := HE4.out.costs
  rw [HN.out] at hco
  refine hco.mono ?_
  rintro e w5 ⟨g, rfl, _, hG, hb5⟩
  clear hco
  clear b0 b1 b2 b3 b4 b5 b6 b7 b8 b9
  clear x0 x1 x2 x3 x4 x5 x6 x7
  have HE5 := hid (HE4.out.low hb5)
  have HV5 := hid (HV4.out.below hb5 HV4.out.lt)
  have HX5 := hid (HX4.out.below hb5 HX4.out.lt)
  have HS5 := hid (HS4.out.low hb5)
  have HB5 := hid (HB4.out.trans (hb5.mono HB4.out.size))
  clear HE4 HV4 HX4 HS4 HB4
  have HL5 := hid (HL4.out.low hb5)
  have cg := HE5.out.cost hG HPb.out
  clear hb5 hG
  have b0 := HV5.out.cell (k := 0) rfl
  have b1 := HV5.out.cell (k := 1) rfl
  have b2 := HV5.out.cell (k := 2) rfl
  have b3 := HV5.out.cell (k := 3) rfl
  have b4 := HV5.out.cell (k := 4) rfl
  have b5 := HV5.out.cell (k := 5) rfl
  have b6 := HV5.out.cell (k := 6) rfl
  have b7 := HV5.out.cell (k := 7) rfl
  have b8 := HV5.out.cell (k := 8) rfl
  have b9 := HV5.out.cell (k := 9) rfl
  have x0 := HX5.out.cell (k := 0) rfl
  have x1 := HX5.out.cell (k := 1) rfl
  have x2 := HX5.out.cell (k := 2) rfl
  have x3 := HX5.out.cell (k := 3) rfl
  have x4 := HX5.out.cell (k := 4) rfl
  have x5 := HX5.out.cell (k := 5) rfl
  have x6 := HX5.out.cell (k := 6) rfl
  have x7 := HX5.out.cell (k := 7) rfl
  go_wp2_with fail
  have HIs := hid (HE5.out.isr HPb.out (al := al) (cl := cl) HL5.out)
  refine HIs.out.mono ?_
  rintro e w6 ⟨rfl, hb6⟩
  clear cg
  clear b0 b1 b2 b3 b4 b5 b6 b7 b8 b9
  clear x0 x1 x2 x3 x4 x5 x6 x7
  have HE6 := hid (HE5.out.low hb6)
  have HV6 := hid (HV5.out.below hb6 HV5.out.lt)
  have HX6 := hid (HX5.out.below hb6 HX5.out.lt)
  have HS6 := hid (HS5.out.low hb6)
  have HB6 := hid (HB5.out.trans (hb6.mono HB5.out.size))
  clear HE5 HV5 HX5 HS5 HB5
  clear hb6 HIs
  go_wp2_with (first | (go_at_call 17; refine (num33_any _ _).mono ?_; rintro e w' ⟨rfl, rfl⟩) | (go_at_call 12; refine (HW.out _).mono ?_; rintro e w' ⟨rfl, hb⟩))
  go_ret
  exact ⟨rfl, HB6.out.trans (hb.mono HB6.out.size)⟩
end Go.Proofs.YtiagbejfghincaaGreat
namespace Go.Proofs.YtiagbejfghincaaGreat.LBestFrom
open Go.ChangeShapes Go.WideShapes Go.ChangeAt Go.RowKit Go.Port
set_option maxRecDepth 100000 in
set_option maxHeartbeats 4000000 in
theorem lifted (os : Os) (started : os.Started) (H : Type) (enc : TypeId × Value → H) :
    ReturnsInHanded {} Tryz.checked os 6 .any (Rows.bestFromSpec.pre6 enc Tryz.prog Tryz.f6 Rows.bestFromRow.domain false) (Rows.bestFromSpec.post enc Tryz.prog Tryz.f6 false true false false) := by
  refine returnsInHanded_of_change (C := Tryz.checked) Tryz.own started (by kernel_rfl) Tryz.func6
    (ChangeSpec.witness6 (enc := enc) (C := Tryz.checked) false ⟨#[], #[.agg #[.slice none 0 0, .slice none 0 0, .int .i64 0, .int .i64 0, .slice none 0 0, .slice none 0 0, .slice none 0 0, .slice none 0 0], .int .i64 0], []⟩ 8 (by kernel_rfl) (by kernel_rfl) (by kernel_rfl) (by kernel_rfl)) ?_
  intro W base args ds gs before hval0 hW hcnd _
  have hval : ∀ (j : Nat) t v, Tryz.f6.params[j]? = some t → args[j]? = some v → Value.okWide Tryz.prog W .any base t v := hval0
  have hW' := hW
  obtain ⟨p, q, hA0, hV, rfl, hfz, hnd⟩ := hW
  have hA : DataW.TrodAll enc Tryz.prog W 0 (fun _ => true) true Tryz.f6.params.toList args.toList ds p := hA0
  rw [Tryz.params6] at hA hval
  obtain ⟨v0, vs0, d0, ds0, p0, q0, hargs, rfl, rfl, h0, r0⟩ := trodAll_cons hA
  obtain ⟨v1, vs1, d1, ds1, p1, q1, rfl, rfl, rfl, h1, r1⟩ := trodAll_cons r0
  obtain ⟨rfl, rfl, rfl⟩ := trodAll_nil r1
  obtain rfl : args = #[v0, v1] := by cases args; simp_all
  obtain ⟨rfl, rfl⟩ := trodVars_none hV
  obtain ⟨a0, c0, H0, e0, f0, D0, W0, G0, A0, cp0, C0, rfl, hS0⟩ := open_scene (hval 0 26 v0 rfl rfl) h0
  obtain ⟨a1, rfl, rfl, rfl, w1⟩ := open_int Tryz.underlying3 (hval 1 3 v1 rfl rfl) h1
  clear hA0 hval0
  simp only [List.append_nil] at hW'
  refine (BestFrom_walk W a0 c0 H0 e0 f0 D0 W0 G0 A0 cp0 C0 hS0 a1 (bounds_i64 w1)).mono fun e W' ⟨he, hb⟩ => ?_
  subst he
  exact ⟨_, rfl, law_post Tryz.kids Tryz.full Tryz.underlying4 rfl rfl hW' (by rw [Tryz.params6]; decide) rfl rfl rfl hb⟩
theorem over : Rows.bestFromRow.holds Tryz.pinned (OpenSpec.ofChange Rows.bestFromSpec) :=
  OpenClaim.holds_of_wide 6 Tryz.f6 rfl rfl rfl rfl rfl rfl rfl ⟨rfl, rfl, rfl, rfl, rfl⟩ rfl rfl rfl rfl rfl (by kernel_rfl) Tryz.func6 (by kernel_rfl)
    (of_decide_eq_true (by kernel_rfl)) (by unfold Func.isWrapper; first | (rw [if_pos (by decide +kernel)]; kernel_rfl) | (rw [if_neg (by decide +kernel)]; exact ⟨rfl, rfl⟩))
    (fun os started H enc _ => lifted os started H enc)
/-- The statement. -/
theorem proved : Rows.BestFromSaid :=
  over
end Go.Proofs.YtiagbejfghincaaGreat.LBestFrom
