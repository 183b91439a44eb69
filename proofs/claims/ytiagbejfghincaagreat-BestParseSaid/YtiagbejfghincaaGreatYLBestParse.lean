/-
  The law BestParse: for any such scene, Parse is ParseModel for the cost model of a first plan. No condition.
-/
import Derived.Test.YtiagbejfghincaaGreatY42
import Derived.Test.YtiagbejfghincaaGreatY46
import Derived.Test.YtiagbejfghincaaGreatY47
import Derived.Test.YtiagbejfghincaaGreatY48
namespace Go.Proofs.YtiagbejfghincaaGreat
open Go.RowKit Go.Port
attribute [local go_sem] Oper.semAt_some
set_option maxRecDepth 100000 in
set_option maxHeartbeats 16000000 in
theorem BestParse_walk (w : World) (a1 : Option Addr) (c1 : Nat) (H : List UInt8) (a2 : Option Addr) (c2 : Nat) (Dt : List UInt8) (Wd D : Int) (Ar : Nat → Option Addr) (cp : Nat → Nat) (C : Nat → List Int) (hs : SceneAt w a1 c1 H a2 c2 Dt Ar cp C) :
    Calls Tryz.prog 9 #[sceneV a1 H.length c1 a2 Dt.length c2 Wd D Ar cp C] w (RetV w (.bool true)) := by
  have HW := hid works33_any
  have hX := Blk.new w [.slice a1 H.length c1, .slice a2 Dt.length c2, .int .i64 Wd, .int .i64 D, .slice (Ar 0) (C 0).length (cp 0), .slice (Ar 1) (C 1).length (cp 1), .slice (Ar 2) (C 2).length (cp 2), .slice (Ar 3) (C 3).length (cp 3)] 26
  have hb0 := below_new w (.cells #[.slice a1 H.length c1, .slice a2 Dt.length c2, .int .i64 Wd, .int .i64 D, .slice (Ar 0) (C 0).length (cp 0), .slice (Ar 1) (C 1).length (cp 1), .slice (Ar 2) (C 2).length (cp 2), .slice (Ar 3) (C 3).length (cp 3)] 26)
  have HM := hid (made33_any a1 a2 c1 c2 H Dt Wd D Ar cp C (w.alloc (.cells #[.slice a1 H.length c1, .slice a2 Dt.length c2, .int .i64 Wd, .int .i64 D, .slice (Ar 0) (C 0).length (cp 0), .slice (Ar 1) (C 1).length (cp 1), .slice (Ar 2) (C 2).length (cp 2), .slice (Ar 3) (C 3).length (cp 3)] 26)) (hs.low hb0))
  have HS0 := hid (hs.low hb0)
  have HX0 := hid hX
  have HB0 := hid hb0
  have x0 := hX.cell (k := 0) rfl
  have x1 := hX.cell (k := 1) rfl
  have x2 := hX.cell (k := 2) rfl
  have x3 := hX.cell (k := 3) rfl
  have x4 := hX.cell (k := 4) rfl
  have x5 := hX.cell (k := 5) rfl
  have x6 := hX.cell (k := 6) rfl
  have x7 := hX.cell (k := 7) rfl
  generalize hbs : H ++ Dt = bs at HM
  unfold sceneV at HM ⊢
  clear hs hX hb0
  go_enter Tryz.func9, Tryz.ntmps9
  go_wp2_with fail
  clear x0 x1 x2 x3 x4 x5 x6 x7
  generalize w.alloc (.cells #[.slice a1 H.length c1, .slice a2 Dt.length c2, .int .i64 Wd, .int .i64 D, .slice (Ar 0) (C 0).length (cp 0), .slice (Ar 1) (C 1).length (cp 1), .slice (Ar 2) (C 2).length (cp 2), .slice (Ar 3) (C 3).length (cp 3)] 26) = w0 at *
  refine HM.out.mono ?_
  rintro e w1 (⟨rfl, hb1⟩ | ⟨hok, F, M, ar, cr, rfl, hF, hM, hC, hcr, hb1⟩)
  · have HB1 := hid ((HB0.out.trans (hb1.mono HB0.out.size)).alloc (HB0.out.trans (hb1.mono HB0.out.size)).size (.cells #[.pointer none, .pointer none, .slice none 0 0, .int .i64 0, .int .i64 0, .int .i64 0, .slice none 0 0, .slice none 0 0, .slice none 0 0, .slice none 0 0] 34))
    clear hb1 HM hbs HS0 HX0
    go_wp2_with (go_at_call 12; refine (HW.out _).mono ?_; rintro e w' ⟨rfl, hb⟩)
    go_ret
    exact ⟨rfl, HB1.out.trans (hb.mono HB1.out.size)⟩
  obtain ⟨g1, g2, g3, g4, g5⟩ := hok
  have hdr : bs.drop H.length = Dt := by rw [← hbs, List.drop_left]
  have hbl : bs.length ≤ 200 := by rw [← hbs, List.length_append]; omega
  have hbn := below_new w1 (.cells #[.pointer (some ⟨F, 0, none⟩), .pointer (some ⟨M, 0, none⟩), .slice ar bs.length cr, .int .i64 (H.length : Int), .int .i64 Wd, .int .i64 D, .slice (Ar 0) (C 0).length (cp 0), .slice (Ar 1) (C 1).length (cp 1), .slice (Ar 2) (C 2).length (cp 2), .slice (Ar 3) (C 3).length (cp 3)] 34)
  have hb2 := hb1.trans (hbn.mono hb1.size)
  have HE2 := hid (BestAt.low (⟨hF, hM, hC, ⟨HS0.out.hf.low hb1, g5⟩, hcr, hbl⟩ : BestAt w1 bs H.length Wd D F M ar cr Ar cp C) hbn)
  have HV2 := hid (Blk.new w1 [.pointer (some ⟨F, 0, none⟩), .pointer (some ⟨M, 0, none⟩), .slice ar bs.length cr, .int .i64 (H.length : Int), .int .i64 Wd, .int .i64 D, .slice (Ar 0) (C 0).length (cp 0), .slice (Ar 1) (C 1).length (cp 1), .slice (Ar 2) (C 2).length (cp 2), .slice (Ar 3) (C 3).length (cp 3)] 34)
  have HX2 := hid (HX0.out.below hb2 HX0.out.lt)
  have HS2 := hid (HS0.out.low hb2)
  have HB2 := hid (HB0.out.trans (hb2.mono HB0.out.size))
  have HDr := hid hdr
  have HN := hid (show (bs.drop H.length).length = Dt.length from by rw [hdr])
  have hd100 : Dt.length ≤ 100 := g2
  clear g1 g2 g3 g4 g5 hdr hbl hbn hb2 hb1 hF hM hC hcr HM HS0 HX0 HB0 hbs
  go_upto_region 4 with fail
  generalize w1.alloc (.cells #[.pointer (some ⟨F, 0, none⟩), .pointer (some ⟨M, 0, none⟩), .slice ar bs.length cr, .int .i64 (H.length : Int), .int .i64 Wd, .int .i64 D, .slice (Ar 0) (C 0).length (cp 0), .slice (Ar 1) (C 1).length (cp 1), .slice (Ar 2) (C 2).length (cp 2), .slice (Ar 3) (C 3).length (cp 3)] 34) = w2 at *
  generalize w1.heap.size = Q at *
  have b0 := HV2.out.cell (k := 0) rfl
  have b1 := HV2.out.cell (k := 1) rfl
  have b2 := HV2.out.cell (k := 2) rfl
  have b3 := HV2.out.cell (k := 3) rfl
  have b4 := HV2.out.cell (k := 4) rfl
  have b5 := HV2.out.cell (k := 5) rfl
  have b6 := HV2.out.cell (k := 6) rfl
  have b7 := HV2.out.cell (k := 7) rfl
  have b8 := HV2.out.cell (k := 8) rfl
  have b9 := HV2.out.cell (k := 9) rfl
  have x0 := HX2.out.cell (k := 0) rfl
  have x1 := HX2.out.cell (k := 1) rfl
  have x2 := HX2.out.cell (k := 2) rfl
  have x3 := HX2.out.cell (k := 3) rfl
  have x4 := HX2.out.cell (k := 4) rfl
  have x5 := HX2.out.cell (k := 5) rfl
  have x6 := HX2.out.cell (k := 6) rfl
  have x7 := HX2.out.cell (k := 7) rfl
  have hbp := bparse_ok bs H.length Wd D F w2 HE2.out.fd HE2.out.hn
  obtain ⟨CP, hCP⟩ : ∃ CP, planP bs H.length Wd D = CP := ⟨_, rfl⟩
  rw [hCP] at hbp
  have HBp := hid hbp
  have HCP := hid (show planC Dt (planF noC bs H.length Wd D 0) = CP from by rw [← hCP]; unfold planP; rw [HDr.out])
  have HC0 := hid (show (∀ k, k < 4 → HistOk k (CP k)) from by rw [← hCP]; exact planC_ok (by have := (fdf noC_ok (D := D) HE2.out.fd.hA HE2.out.fd.hW.2 HE2.out.hn).2.2; omega))
  clear hbp hCP
  go_wp2_with fail
  refine HBp.out.mono ?_
  rintro e w3 ⟨al, cl, rfl, hlc, hcl, hb3⟩
  have HE3 := hid (HE2.out.low hb3)
  have HV3 := hid (HV2.out.below hb3 HV2.out.lt)
  have HX3 := hid (HX2.out.below hb3 HX2.out.lt)
  have HS3 := hid (HS2.out.low hb3)
  have HB3 := hid (HB2.out.trans (hb3.mono HB2.out.size))
  clear HE2 HV2 HX2 HS2 HB2
  have HL3 := hid (And.intro hlc hcl)
  clear hlc hcl hb3 HBp
  clear b0 b1 b2 b3 b4 b5 b6 b7 b8 b9
  clear x0 x1 x2 x3 x4 x5 x6 x7
  go_wp2_with fail
  refine wp_region_noPanic ?_
  refine wp_region_held_drew (S := (fun W' => Below w3.heap.size w3 W')) (by kernel_rfl) (Below.refl _ _).drew (fun hHeld => ?_)
  refine wpAnyH_take (i := 0) (v := .pointer (some ⟨Q, 0, none⟩)) (by simp only [List.getElem?_toArray, List.getElem?_cons_zero]; rfl) (by kernel_rfl) (by kernel_rfl) (by kernel_rfl) (fun _ _ _ h => h) (Or.inl ⟨by rfl, fun W hSw => ?_⟩) (by assumption) ?_
  · clear hSw
    go_simp
  simp only [Act.put, List.setIfInBounds_toArray, List.set_cons_zero, List.set_cons_succ]
  refine wpAnyH_take (i := 1) (v := .pointer (some ⟨F, 0, none⟩)) (by simp only [List.getElem?_toArray, List.getElem?_cons_zero, List.getElem?_cons_succ]; rfl) (by kernel_rfl) (by kernel_rfl) (by kernel_rfl) (fun _ _ _ h => h) (Or.inl ⟨by rfl, fun W hSw => ?_⟩) (by assumption) ?_
  · have cc := (HV3.out.below hSw HV3.out.lt).cell (k := 0) rfl
    clear hSw
    go_simp
  simp only [Act.put, List.setIfInBounds_toArray, List.set_cons_zero, List.set_cons_succ]
  have hbd : Below w3.heap.size w3 w3.drew := (Below.refl _ _).drew
  generalize w3.drew = wd at *
  refine wpAnyH_ready (rs := [2]) (by kernel_rfl) (by simp) ?_
  refine AllReadyH.cons (by simp only [List.getElem?_toArray, List.getElem?_cons_zero, List.getElem?_cons_succ]; rfl) (fun K hK => ?_) AllReadyH.nil
  rw [if_pos (by rfl)]
  go_simp
  go_at_call 27
  refine (pruniform_any wd).mono ?_
  rintro e w4 ⟨M0, rfl, hM0, _, hb4⟩
  have hbe := hbd.trans (hb4.mono hbd.size)
  dsimp only
  refine hK.out _ _ hbe (fun _ => ?_)
  clear hK K hb4 hbd
  refine wpAnyH_ready (rs := [3]) (by kernel_rfl) (by simp) ?_
  refine AllReadyH.cons (by simp only [List.getElem?_toArray, List.getElem?_cons_zero, List.getElem?_cons_succ]; rfl) (fun K hK => ?_) AllReadyH.nil
  rw [if_pos (by rfl)]
  go_simp
  go_at_call 18
  refine (bpm_ok bs H.length Wd D F M0 noC w4 (HE3.out.fd.low hbe) hM0 HE3.out.ch).mono ?_
  rintro e w5 ⟨v, rfl, hown, hb5⟩
  obtain ⟨bl, bc, rfl, hlb, hcb, _⟩ := own_open (l := (planF noC bs H.length Wd D 0)) hown
  have hbf := hbe.trans (hb5.mono hbe.size)
  dsimp only
  refine hK.out _ _ hbf (fun _ => ?_)
  clear hK K hb5 hbe hown hM0
  refine wpAnyH_take (i := 4) (v := .tuple #[.slice bl (planF noC bs H.length Wd D 0).length bc, .int .i64 0]) (by simp only [List.getElem?_toArray, List.getElem?_cons_zero, List.getElem?_cons_succ]; rfl) (by kernel_rfl) (by kernel_rfl) (by kernel_rfl) (fun _ _ _ h => h) (Or.inl ⟨by rfl, fun W hSw => ?_⟩) (by assumption) ?_
  · clear hSw
    go_simp
  simp only [Act.put, List.setIfInBounds_toArray, List.set_cons_zero, List.set_cons_succ]
  refine wpAnyH_take (i := 5) (v := .slice bl (planF noC bs H.length Wd D 0).length bc) (by simp only [List.getElem?_toArray, List.getElem?_cons_zero, List.getElem?_cons_succ]; rfl) (by kernel_rfl) (by kernel_rfl) (by kernel_rfl) (fun _ _ _ h => h) (Or.inl ⟨by rfl, fun W hSw => ?_⟩) (by assumption) ?_
  · clear hSw
    go_simp
  simp only [Act.put, List.setIfInBounds_toArray, List.set_cons_zero, List.set_cons_succ]
  refine wpAnyH_take (i := 6) (v := .int .i64 0) (by simp only [List.getElem?_toArray, List.getElem?_cons_zero, List.getElem?_cons_succ]; rfl) (by kernel_rfl) (by kernel_rfl) (by kernel_rfl) (fun _ _ _ h => h) (Or.inl ⟨by rfl, fun W hSw => ?_⟩) (by assumption) ?_
  · clear hSw
    go_simp
  simp only [Act.put, List.setIfInBounds_toArray, List.set_cons_zero, List.set_cons_succ]
  refine wpAnyH_ready (rs := [7]) (by kernel_rfl) (by simp) ?_
  refine AllReadyH.cons (by simp only [List.getElem?_toArray, List.getElem?_cons_zero, List.getElem?_cons_succ]; rfl) (fun K hK => ?_) AllReadyH.nil
  rw [if_pos (by rfl)]
  go_simp
  refine hK.out _ _ hbf (fun _ => ?_)
  clear hK K
  refine wpAnyH_ready (rs := [8]) (by kernel_rfl) (by simp) ?_
  refine AllReadyH.cons (by simp only [List.getElem?_toArray, List.getElem?_cons_zero, List.getElem?_cons_succ]; rfl) (fun K hK => ?_) AllReadyH.nil
  rw [if_pos (by rfl)]
  go_simp
  refine hK.out _ _ hbf (fun _ => ?_)
  clear hK K
  refine wpAnyH_done (by kernel_rfl) ?_ _
  refine NoPanic.normal ?_
  have hb5 := hbf
  clear hbf hHeld
  have HE5 := hid (HE3.out.low hb5)
  have HV5 := hid (HV3.out.below hb5 HV3.out.lt)
  have HX5 := hid (HX3.out.below hb5 HX3.out.lt)
  have HS5 := hid (HS3.out.low hb5)
  have HB5 := hid (HB3.out.trans (hb5.mono HB3.out.size))
  clear HE3 HV3 HX3 HS3 HB3
  have HL5 := hid (And.intro HL3.out.1 (HL3.out.2.low hb5))
  have hpd := fdf noC_ok (D := D) HE5.out.fd.hA HE5.out.fd.hW.2 HE5.out.hn
  rw [HDr.out] at hpd
  have HPd := hid (show PdAt w5 bl bc (planF noC bs H.length Wd D 0) a2 c2 Dt from ⟨Nat.le_trans hpd.2.2 (by decide), hlb, hcb, ⟨by omega, Nat.le_trans HS5.out.hm (by decide)⟩, HS5.out.h2, HS5.out.h4, HS5.out.hc2, by omega⟩)
  have HFp := hid (fun W (hW : Below w5.heap.size w5 W) => prfrom_ok W bl bc (planF noC bs H.length Wd D 0) a2 c2 Dt (HPd.out.low hW) hpd.1 hpd.2.1)
  have HOf := hid (fun W (hW : Below w5.heap.size w5 W) => rof_ok W bl bc (planF noC bs H.length Wd D 0) a2 c2 Dt (HPd.out.low hW) hpd.1 hpd.2.1)
  rw [HCP.out] at HFp HOf
  unfold fourV at HOf
  clear hb5 hpd hlb hcb HL3
  have b0 := HV5.out.cell (k := 0) rfl
  have b1 := HV5.out.cell (k := 1) rfl
  have b2 := HV5.out.cell (k := 2) rfl
  have b3 := HV5.out.cell (k := 3) rfl
  have b4 := HV5.out.cell (k := 4) rfl
  have b5 := HV5.out.cell (k := 5) rfl
  have b6 := HV5.out.cell (k := 6) rfl
  have b7 := HV5.out.cell (k := 7) rfl
  have b8 := HV5.out.cell (k := 8) rfl
  have b9 := HV5.out.cell (k := 9) rfl
  have x1 := HX5.out.cell (k := 1) rfl
  go_wp2_with fail
  refine (HFp.out w5 (Below.refl _ _)).mono ?_
  rintro e w6 ⟨M2, rfl, hM2, _, hb6⟩
  have HOf6 := hid (HOf.out w6 hb6)
  clear b0 b1 b2 b3 b4 b5 b6 b7 b8 b9
  clear x1
  have HE6 := hid (HE5.out.low hb6)
  have HV6 := hid (HV5.out.below hb6 HV5.out.lt)
  have HX6 := hid (HX5.out.below hb6 HX5.out.lt)
  have HS6 := hid (HS5.out.low hb6)
  have HB6 := hid (HB5.out.trans (hb6.mono HB5.out.size))
  clear HE5 HV5 HX5 HS5 HB5
  have HL6 := hid (And.intro HL5.out.1 (HL5.out.2.low hb6))
  have HM6 := hid hM2
  clear hb6 hM2 HFp HOf HPd HL5
  have b0 := HV6.out.cell (k := 0) rfl
  have b1 := HV6.out.cell (k := 1) rfl
  have b2 := HV6.out.cell (k := 2) rfl
  have b3 := HV6.out.cell (k := 3) rfl
  have b4 := HV6.out.cell (k := 4) rfl
  have b5 := HV6.out.cell (k := 5) rfl
  have b6 := HV6.out.cell (k := 6) rfl
  have b7 := HV6.out.cell (k := 7) rfl
  have b8 := HV6.out.cell (k := 8) rfl
  have b9 := HV6.out.cell (k := 9) rfl
  have x1 := HX6.out.cell (k := 1) rfl
  go_wp2_with fail
  refine HOf6.out.mono ?_
  rintro e w7 ⟨A2, cp2, rfl, hR2, hb7⟩
  have hbn := below_new w7 (.cells #[.slice (A2 0) (CP 0).length (cp2 0), .slice (A2 1) (CP 1).length (cp2 1), .slice (A2 2) (CP 2).length (cp2 2), .slice (A2 3) (CP 3).length (cp2 3)] 32)
  have hb8 := hb7.trans (hbn.mono hb7.size)
  have HZ8 := hid (show BestAt (w7.alloc (.cells #[.slice (A2 0) (CP 0).length (cp2 0), .slice (A2 1) (CP 1).length (cp2 1), .slice (A2 2) (CP 2).length (cp2 2), .slice (A2 3) (CP 3).length (cp2 3)] 32)) bs H.length Wd D F M2 ar cr A2 cp2 CP from ⟨HE6.out.fd.low hb8, HM6.out.low hb8, HE6.out.cs.low hb8, hR2.low hbn, HE6.out.hcr, HE6.out.hbl⟩)
  have HQ8 := hid (Blk.new w7 [.slice (A2 0) (CP 0).length (cp2 0), .slice (A2 1) (CP 1).length (cp2 1), .slice (A2 2) (CP 2).length (cp2 2), .slice (A2 3) (CP 3).length (cp2 3)] 32)
  clear b0 b1 b2 b3 b4 b5 b6 b7 b8 b9
  clear x1
  have HE8 := hid (HE6.out.low hb8)
  have HV8 := hid (HV6.out.below hb8 HV6.out.lt)
  have HX8 := hid (HX6.out.below hb8 HX6.out.lt)
  have HS8 := hid (HS6.out.low hb8)
  have HB8 := hid (HB6.out.trans (hb8.mono HB6.out.size))
  clear HE6 HV6 HX6 HS6 HB6
  have HL8 := hid (And.intro HL6.out.1 (HL6.out.2.low hb8))
  clear hb8 hbn hb7 hR2 HL6 HM6 HOf6
  go_upto_region 8 with fail
  generalize w7.alloc (.cells #[.slice (A2 0) (CP 0).length (cp2 0), .slice (A2 1) (CP 1).length (cp2 1), .slice (A2 2) (CP 2).length (cp2 2), .slice (A2 3) (CP 3).length (cp2 3)] 32) = w8 at *
  generalize w7.heap.size = G at *
  have b0 := HV8.out.cell (k := 0) rfl
  have b1 := HV8.out.cell (k := 1) rfl
  have b2 := HV8.out.cell (k := 2) rfl
  have b3 := HV8.out.cell (k := 3) rfl
  have b4 := HV8.out.cell (k := 4) rfl
  have b5 := HV8.out.cell (k := 5) rfl
  have b6 := HV8.out.cell (k := 6) rfl
  have b7 := HV8.out.cell (k := 7) rfl
  have b8 := HV8.out.cell (k := 8) rfl
  have b9 := HV8.out.cell (k := 9) rfl
  have x1 := HX8.out.cell (k := 1) rfl
  go_wp2_with fail
  refine HZ8.out.min.mono ?_
  rintro e w9 ⟨rfl, hb9⟩
  clear b0 b1 b2 b3 b4 b5 b6 b7 b8 b9
  clear x1
  have HE9 := hid (HE8.out.low hb9)
  have HV9 := hid (HV8.out.below hb9 HV8.out.lt)
  have HX9 := hid (HX8.out.below hb9 HX8.out.lt)
  have HS9 := hid (HS8.out.low hb9)
  have HB9 := hid (HB8.out.trans (hb9.mono HB8.out.size))
  clear HE8 HV8 HX8 HS8 HB8
  have HL9 := hid (And.intro HL8.out.1 (HL8.out.2.low hb9))
  have HZ9 := hid (HZ8.out.low hb9)
  have HQ9 := hid (HQ8.out.below hb9 HQ8.out.lt)
  clear hb9 HL8 HZ8 HQ8
  have b0 := HV9.out.cell (k := 0) rfl
  have b1 := HV9.out.cell (k := 1) rfl
  have b2 := HV9.out.cell (k := 2) rfl
  have b3 := HV9.out.cell (k := 3) rfl
  have b4 := HV9.out.cell (k := 4) rfl
  have b5 := HV9.out.cell (k := 5) rfl
  have b6 := HV9.out.cell (k := 6) rfl
  have b7 := HV9.out.cell (k := 7) rfl
  have b8 := HV9.out.cell (k := 8) rfl
  have b9 := HV9.out.cell (k := 9) rfl
  have x1 := HX9.out.cell (k := 1) rfl
  have q0 := HQ9.out.cell (k := 0) rfl
  have q1 := HQ9.out.cell (k := 1) rfl
  have q2 := HQ9.out.cell (k := 2) rfl
  have q3 := HQ9.out.cell (k := 3) rfl
  have hpl := HZ9.out.plan (p := 0) (Nat.zero_le _) (al := al) (cl := cl) (ad := a2) (c := c2) (by
    have h := HZ9.out.pd (p := 0) (Nat.zero_le _) (w := w9) (al := al) (cl := cl) HL9.out.1 HL9.out.2 (ad := a2) (c := c2) (Nat.le_trans HS9.out.hm (by decide)) (by rw [List.drop_zero, HDr.out]; exact HS9.out.h2) HS9.out.h4 (by rw [List.drop_zero, HDr.out]; exact HS9.out.hc2)
    exact h)
  rw [List.drop_zero, HN.out] at hpl
  have HPl := hid hpl
  clear hpl
  go_wp2_with (go_at_call 17; refine (num33_any _ _).mono ?_; rintro e w' ⟨rfl, rfl⟩)
  refine HPl.out.mono ?_
  rintro e w10 ⟨rfl, hb10⟩
  clear b0 b1 b2 b3 b4 b5 b6 b7 b8 b9
  clear x1
  clear q0 q1 q2 q3
  have HE10 := hid (HE9.out.low hb10)
  have HV10 := hid (HV9.out.below hb10 HV9.out.lt)
  have HX10 := hid (HX9.out.below hb10 HX9.out.lt)
  have HS10 := hid (HS9.out.low hb10)
  have HB10 := hid (HB9.out.trans (hb10.mono HB9.out.size))
  clear HE9 HV9 HX9 HS9 HB9
  have HL10 := hid (HL9.out.2.low hb10)
  have HZ10 := hid (HZ9.out.low hb10)
  have HQ10 := hid (HQ9.out.below hb10 HQ9.out.lt)
  clear hb10 HL9 HZ9 HQ9 HPl
  have b0 := HV10.out.cell (k := 0) rfl
  have b1 := HV10.out.cell (k := 1) rfl
  have b2 := HV10.out.cell (k := 2) rfl
  have b3 := HV10.out.cell (k := 3) rfl
  have b4 := HV10.out.cell (k := 4) rfl
  have b5 := HV10.out.cell (k := 5) rfl
  have b6 := HV10.out.cell (k := 6) rfl
  have b7 := HV10.out.cell (k := 7) rfl
  have b8 := HV10.out.cell (k := 8) rfl
  have b9 := HV10.out.cell (k := 9) rfl
  have x1 := HX10.out.cell (k := 1) rfl
  have q0 := HQ10.out.cell (k := 0) rfl
  have q1 := HQ10.out.cell (k := 1) rfl
  have q2 := HQ10.out.cell (k := 2) rfl
  have q3 := HQ10.out.cell (k := 3) rfl
  go_wp2_with fail
  have hco := HZ10.out.costs
  rw [HN.out] at hco
  refine hco.mono ?_
  rintro e w11 ⟨g, rfl, _, hG, hb11⟩
  clear hco
  clear b0 b1 b2 b3 b4 b5 b6 b7 b8 b9
  clear x1
  clear q0 q1 q2 q3
  have HE11 := hid (HE10.out.low hb11)
  have HV11 := hid (HV10.out.below hb11 HV10.out.lt)
  have HX11 := hid (HX10.out.below hb11 HX10.out.lt)
  have HS11 := hid (HS10.out.low hb11)
  have HB11 := hid (HB10.out.trans (hb11.mono HB10.out.size))
  clear HE10 HV10 HX10 HS10 HB10
  have HL11 := hid (HL10.out.low hb11)
  have HZ11 := hid (HZ10.out.low hb11)
  have cg := HZ11.out.cost hG (p := 0) (Nat.zero_le _)
  clear hb11 hG HL10 HZ10 HQ10
  have b0 := HV11.out.cell (k := 0) rfl
  have b1 := HV11.out.cell (k := 1) rfl
  have b2 := HV11.out.cell (k := 2) rfl
  have b3 := HV11.out.cell (k := 3) rfl
  have b4 := HV11.out.cell (k := 4) rfl
  have b5 := HV11.out.cell (k := 5) rfl
  have b6 := HV11.out.cell (k := 6) rfl
  have b7 := HV11.out.cell (k := 7) rfl
  have b8 := HV11.out.cell (k := 8) rfl
  have b9 := HV11.out.cell (k := 9) rfl
  have x1 := HX11.out.cell (k := 1) rfl
  have HIs := hid (HZ11.out.isr (p := 0) (Nat.zero_le _) (al := al) (cl := cl) HL11.out)
  have HIs := hid (show Calls Tryz.prog 20 #[.agg #[.slice ar bs.length cr, .int .i64 (H.length : Int), .int .i64 Wd, .int .i64 D], .int .i64 0, .slice al (planF CP bs H.length Wd D 0).length cl] w11 (RetV w11 (.bool true)) from HIs.out)
  go_wp2_with fail
  refine HIs.out.mono ?_
  rintro e w12 ⟨rfl, hb12⟩
  clear cg
  clear b0 b1 b2 b3 b4 b5 b6 b7 b8 b9
  clear x1
  have HE12 := hid (HE11.out.low hb12)
  have HV12 := hid (HV11.out.below hb12 HV11.out.lt)
  have HX12 := hid (HX11.out.below hb12 HX11.out.lt)
  have HS12 := hid (HS11.out.low hb12)
  have HB12 := hid (HB11.out.trans (hb12.mono HB11.out.size))
  clear HE11 HV11 HX11 HS11 HB11
  clear hb12 HIs
  go_wp2_with (first | (go_at_call 17; refine (num33_any _ _).mono ?_; rintro e w' ⟨rfl, rfl⟩) | (go_at_call 12; refine (HW.out _).mono ?_; rintro e w' ⟨rfl, hb⟩))
  go_ret
  exact ⟨rfl, HB12.out.trans (hb.mono HB12.out.size)⟩
end Go.Proofs.YtiagbejfghincaaGreat
namespace Go.Proofs.YtiagbejfghincaaGreat.LBestParse
open Go.ChangeShapes Go.WideShapes Go.ChangeAt Go.RowKit Go.Port
set_option maxRecDepth 100000 in
set_option maxHeartbeats 4000000 in
theorem lifted (os : Os) (started : os.Started) (H : Type) (enc : TypeId × Value → H) :
    ReturnsInHanded {} Tryz.checked os 9 .any (Rows.bestParseSpec.pre6 enc Tryz.prog Tryz.f9 Rows.bestParseRow.domain false) (Rows.bestParseSpec.post enc Tryz.prog Tryz.f9 false true false false) := by
  refine returnsInHanded_of_change (C := Tryz.checked) Tryz.own started (by kernel_rfl) Tryz.func9
    (ChangeSpec.witness6 (enc := enc) (C := Tryz.checked) false ⟨#[], #[.agg #[.slice none 0 0, .slice none 0 0, .int .i64 0, .int .i64 0, .slice none 0 0, .slice none 0 0, .slice none 0 0, .slice none 0 0]], []⟩ 8 (by kernel_rfl) (by kernel_rfl) (by kernel_rfl) (by kernel_rfl)) ?_
  intro W base args ds gs before hval0 hW hcnd _
  have hval : ∀ (j : Nat) t v, Tryz.f9.params[j]? = some t → args[j]? = some v → Value.okWide Tryz.prog W .any base t v := hval0
  have hW' := hW
  obtain ⟨p, q, hA0, hV, rfl, hfz, hnd⟩ := hW
  have hA : DataW.TrodAll enc Tryz.prog W 0 (fun _ => true) true Tryz.f9.params.toList args.toList ds p := hA0
  rw [Tryz.params9] at hA hval
  obtain ⟨v0, vs0, d0, ds0, p0, q0, hargs, rfl, rfl, h0, r0⟩ := trodAll_cons hA
  obtain ⟨rfl, rfl, rfl⟩ := trodAll_nil r0
  obtain rfl : args = #[v0] := by cases args; simp_all
  obtain ⟨rfl, rfl⟩ := trodVars_none hV
  obtain ⟨a0, c0, H0, e0, f0, D0, W0, G0, A0, cp0, C0, rfl, hS0⟩ := open_scene (hval 0 26 v0 rfl rfl) h0
  clear hA0 hval0
  simp only [List.append_nil] at hW'
  refine (BestParse_walk W a0 c0 H0 e0 f0 D0 W0 G0 A0 cp0 C0 hS0).mono fun e W' ⟨he, hb⟩ => ?_
  subst he
  exact ⟨_, rfl, law_post Tryz.kids Tryz.full Tryz.underlying4 rfl rfl hW' (by rw [Tryz.params9]; decide) rfl rfl rfl hb⟩
theorem over : Rows.bestParseRow.holds Tryz.pinned (OpenSpec.ofChange Rows.bestParseSpec) :=
  OpenClaim.holds_of_wide 9 Tryz.f9 rfl rfl rfl rfl rfl rfl rfl ⟨rfl, rfl, rfl, rfl, rfl⟩ rfl rfl rfl rfl rfl (by kernel_rfl) Tryz.func9 (by kernel_rfl)
    (of_decide_eq_true (by kernel_rfl)) (by unfold Func.isWrapper; first | (rw [if_pos (by decide +kernel)]; kernel_rfl) | (rw [if_neg (by decide +kernel)]; exact ⟨rfl, rfl⟩))
    (fun os started H enc _ => lifted os started H enc)
/-- The statement. -/
theorem proved : Rows.BestParseSaid :=
  over
end Go.Proofs.YtiagbejfghincaaGreat.LBestParse
