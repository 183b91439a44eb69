/-
  The law BestNone: for any such scene and any index, the functions for an absent finder or cost model, both nil and zero. No condition.
-/
import Derived.Test.YtiagbejfghincaaGreatY42
import Derived.Test.YtiagbejfghincaaGreatY46
import Derived.Test.YtiagbejfghincaaGreatY47
import Derived.OwnWalkIn
import Derived.TacticsInMore
namespace Go.Proofs.YtiagbejfghincaaGreat
open Go.RowKit Go.Port
attribute [local go_sem] Oper.semAt_some
theorem fn_nilJ (f : Nat) (lb : Array Value) (w : World) : (binOp .eql 61 (.func (.func f) #[] lb) .nilFunc).run Tryz.prog w = .ok (.bool false) w := by kernel_rfl
set_option maxRecDepth 1000000 in
set_option maxHeartbeats 16000000 in
theorem BestNone_walk (w : World) (a1 : Option Addr) (c1 : Nat) (H : List UInt8) (a2 : Option Addr) (c2 : Nat) (Dt : List UInt8) (Wd D : Int) (Ar : Nat → Option Addr) (cp : Nat → Nat) (C : Nat → List Int) (hs : SceneAt w a1 c1 H a2 c2 Dt Ar cp C) (at0 : Int) (_ : -9223372036854775808 ≤ at0 ∧ at0 ≤ 9223372036854775807) (zero : Bool) :
    Calls Tryz.prog 10 #[sceneV a1 H.length c1 a2 Dt.length c2 Wd D Ar cp C, .int .i64 at0, .bool zero] w (RetV w (.bool true)) := by
  have HW := hid works33_any
  have hX := ((Blk.newAt rfl : Blk (w.alloc (.cells #[.slice a1 H.length c1, .slice a2 Dt.length c2, .int .i64 Wd, .int .i64 D, .slice (Ar 0) (C 0).length (cp 0), .slice (Ar 1) (C 1).length (cp 1), .slice (Ar 2) (C 2).length (cp 2), .slice (Ar 3) (C 3).length (cp 3)] 26)) w.heap.size [.slice a1 H.length c1, .slice a2 Dt.length c2, .int .i64 Wd, .int .i64 D, .slice (Ar 0) (C 0).length (cp 0), .slice (Ar 1) (C 1).length (cp 1), .slice (Ar 2) (C 2).length (cp 2), .slice (Ar 3) (C 3).length (cp 3)] 26).alloc (.cells #[.bool false] 4))
  have hRr := (Blk.newAt (by simp) : Blk ((w.alloc (.cells #[.slice a1 H.length c1, .slice a2 Dt.length c2, .int .i64 Wd, .int .i64 D, .slice (Ar 0) (C 0).length (cp 0), .slice (Ar 1) (C 1).length (cp 1), .slice (Ar 2) (C 2).length (cp 2), .slice (Ar 3) (C 3).length (cp 3)] 26)).alloc (.cells #[.bool false] 4)) (w.heap.size + 1) [.bool false] 4)
  have hb0 : Below w.heap.size w ((w.alloc (.cells #[.slice a1 H.length c1, .slice a2 Dt.length c2, .int .i64 Wd, .int .i64 D, .slice (Ar 0) (C 0).length (cp 0), .slice (Ar 1) (C 1).length (cp 1), .slice (Ar 2) (C 2).length (cp 2), .slice (Ar 3) (C 3).length (cp 3)] 26)).alloc (.cells #[.bool false] 4)) := (below_new w _).alloc (by simp) _
  have HM := hid (made33_any a1 a2 c1 c2 H Dt Wd D Ar cp C ((w.alloc (.cells #[.slice a1 H.length c1, .slice a2 Dt.length c2, .int .i64 Wd, .int .i64 D, .slice (Ar 0) (C 0).length (cp 0), .slice (Ar 1) (C 1).length (cp 1), .slice (Ar 2) (C 2).length (cp 2), .slice (Ar 3) (C 3).length (cp 3)] 26)).alloc (.cells #[.bool false] 4)) (hs.low hb0))
  have HS0 := hid (hs.low hb0)
  have HX0 := hid hX
  have HRr0 := hid hRr
  have HB0 := hid hb0
  have x0 := hX.cell (k := 0) rfl
  have x1 := hX.cell (k := 1) rfl
  have x2 := hX.cell (k := 2) rfl
  have x3 := hX.cell (k := 3) rfl
  have x4 := hX.cell (k := 4) rfl
  have x5 := hX.cell (k := 5) rfl
  have x6 := hX.cell (k := 6) rfl
  have x7 := hX.cell (k := 7) rfl
  generalize hbs : H ++ Dt = bs at HM
  unfold sceneV at HM ⊢
  clear hs hX hb0 hRr
  refine (callsIn_wide (n := 1)).1 ?_
  refine callsIn_of_wp_marks Tryz.func10 rfl trivial ?_ rfl
  simp only [Tryz.ntmps10, List.size_toArray, List.length_cons, List.length_nil, Nat.reduceAdd, Nat.reduceSub, Array.replicate_succ, Array.replicate_zero, List.push_toArray, List.append_toArray, List.nil_append, List.cons_append]
  refine wpIn_wide.2 ?_
  go_wp2_with fail
  clear x0 x1 x2 x3 x4 x5 x6 x7
  generalize ((w.alloc (.cells #[.slice a1 H.length c1, .slice a2 Dt.length c2, .int .i64 Wd, .int .i64 D, .slice (Ar 0) (C 0).length (cp 0), .slice (Ar 1) (C 1).length (cp 1), .slice (Ar 2) (C 2).length (cp 2), .slice (Ar 3) (C 3).length (cp 3)] 26)).alloc (.cells #[.bool false] 4)) = w0 at *
  refine HM.out.mono ?_
  rintro e w1 (⟨rfl, hb1⟩ | ⟨hok, F, M, ar, cr, rfl, hF, hM, hC, hcr, hb1⟩)
  · have hb2 := hb1.alloc hb1.size (.cells #[.pointer none, .pointer none, .slice none 0 0, .int .i64 0, .int .i64 0, .int .i64 0, .slice none 0 0, .slice none 0 0, .slice none 0 0, .slice none 0 0] 34)
    have HB1 := hid (HB0.out.trans (hb2.mono HB0.out.size))
    have HR1 := hid (HRr0.out.below hb2 HRr0.out.lt)
    clear hb1 hb2 HM hbs HS0 HX0 HRr0
    go_wp2_with fail
    refine (HW.out _).mono ?_
    rintro e w5 ⟨rfl, hb5⟩
    have HR5 := hid (HR1.out.below hb5 HR1.out.lt)
    have HB5 := hid (HB1.out.trans (hb5.mono HB1.out.size))
    have hr5 := HR5.out.cell (k := 0) rfl
    have hz5 := HR5.out.frozen 0
    have hr6 := (HR5.out.set 0 (.bool true)).cell (k := 0) rfl
    clear hb5
    go_wp2
    exact ⟨.bool true, by simp [results, Tryz.results10, go_sem, hr6], rfl, HB5.out.setCell (p := ⟨w.heap.size + 1, 0, none⟩) (Nat.le_succ _) _⟩
  obtain ⟨g1, g2, g3, g4, g5⟩ := hok
  have hbl : bs.length ≤ 200 := by rw [← hbs, List.length_append]; omega
  have hbn := below_new w1 (.cells #[.pointer (some ⟨F, 0, none⟩), .pointer (some ⟨M, 0, none⟩), .slice ar bs.length cr, .int .i64 (H.length : Int), .int .i64 Wd, .int .i64 D, .slice (Ar 0) (C 0).length (cp 0), .slice (Ar 1) (C 1).length (cp 1), .slice (Ar 2) (C 2).length (cp 2), .slice (Ar 3) (C 3).length (cp 3)] 34)
  have hb2 := hb1.trans (hbn.mono hb1.size)
  have HE2 := hid (BestAt.low (⟨hF, hM, hC, ⟨HS0.out.hf.low hb1, g5⟩, hcr, hbl⟩ : BestAt w1 bs H.length Wd D F M ar cr Ar cp C) hbn)
  have HV2 := hid (Blk.new w1 [.pointer (some ⟨F, 0, none⟩), .pointer (some ⟨M, 0, none⟩), .slice ar bs.length cr, .int .i64 (H.length : Int), .int .i64 Wd, .int .i64 D, .slice (Ar 0) (C 0).length (cp 0), .slice (Ar 1) (C 1).length (cp 1), .slice (Ar 2) (C 2).length (cp 2), .slice (Ar 3) (C 3).length (cp 3)] 34)
  have HRr2 := hid (HRr0.out.below hb2 HRr0.out.lt)
  have HB2 := hid (HB0.out.trans (hb2.mono HB0.out.size))
  clear g1 g2 g3 g4 g5 hbl hbn hb2 hb1 hF hM hC hcr HM HS0 HX0 HB0 HRr0 hbs
  go_upto_region 6 with fail
  generalize w1.alloc (.cells #[.pointer (some ⟨F, 0, none⟩), .pointer (some ⟨M, 0, none⟩), .slice ar bs.length cr, .int .i64 (H.length : Int), .int .i64 Wd, .int .i64 D, .slice (Ar 0) (C 0).length (cp 0), .slice (Ar 1) (C 1).length (cp 1), .slice (Ar 2) (C 2).length (cp 2), .slice (Ar 3) (C 3).length (cp 3)] 34) = w2 at *
  generalize w1.heap.size = Q at *
  cases zero
  · have HE3 := HE2
    have HV3 := HV2
    have HRr3 := HRr2
    have HB3 := HB2
    have HF3 := hid (show NoFd none w2 from .inl rfl)
    have HP3 := hid (show NoPr w2 none from .inl rfl)
    clear HE2 HV2 HRr2 HB2
    generalize w2 = w3 at *
    have b0 := HV3.out.cell (k := 0) rfl
    have b1 := HV3.out.cell (k := 1) rfl
    go_wp2_with fail
    refine (bmin_none none (some ⟨M, 0, none⟩) w3 (btab_nof none M C w3 HF3.out HE3.out.pr)).mono ?_
    rintro e w4 ⟨rfl, hb4⟩
    clear b0 b1
    have HE4 := hid (HE3.out.low hb4)
    have HV4 := hid (HV3.out.below hb4 HV3.out.lt)
    have HF4 := hid (HF3.out.low hb4)
    have HP4 := hid (HP3.out.low hb4)
    have HRr4 := hid (HRr3.out.below hb4 HRr3.out.lt)
    have HB4 := hid (HB3.out.trans (hb4.mono HB3.out.size))
    clear HE3 HV3 HF3 HP3 HRr3 HB3 hb4
    have b0 := HV4.out.cell (k := 0) rfl
    have b1 := HV4.out.cell (k := 1) rfl
    go_wp2_with fail
    refine (bmin_none (some ⟨F, 0, none⟩) none w4 (btab_nop bs H.length Wd D F none w4 HE4.out.fd HP4.out)).mono ?_
    rintro e w5 ⟨rfl, hb5⟩
    clear b0 b1
    have HE5 := hid (HE4.out.low hb5)
    have HV5 := hid (HV4.out.below hb5 HV4.out.lt)
    have HF5 := hid (HF4.out.low hb5)
    have HP5 := hid (HP4.out.low hb5)
    have HRr5 := hid (HRr4.out.below hb5 HRr4.out.lt)
    have HB5 := hid (HB4.out.trans (hb5.mono HB4.out.size))
    clear HE4 HV4 HF4 HP4 HRr4 HB4 hb5
    have b0 := HV5.out.cell (k := 0) rfl
    have b1 := HV5.out.cell (k := 1) rfl
    go_wp2_with fail
    refine (bpm_none none (some ⟨M, 0, none⟩) w5 (btab_nof none M C w5 HF5.out HE5.out.pr)).mono ?_
    rintro e w6 ⟨rfl, hb6⟩
    clear b0 b1
    have HE6 := hid (HE5.out.low hb6)
    have HV6 := hid (HV5.out.below hb6 HV5.out.lt)
    have HF6 := hid (HF5.out.low hb6)
    have HP6 := hid (HP5.out.low hb6)
    have HRr6 := hid (HRr5.out.below hb6 HRr5.out.lt)
    have HB6 := hid (HB5.out.trans (hb6.mono HB5.out.size))
    clear HE5 HV5 HF5 HP5 HRr5 HB5 hb6
    have b0 := HV6.out.cell (k := 0) rfl
    have b1 := HV6.out.cell (k := 1) rfl
    go_wp2_with fail
    refine (bpm_none (some ⟨F, 0, none⟩) none w6 (btab_nop bs H.length Wd D F none w6 HE6.out.fd HP6.out)).mono ?_
    rintro e w7 ⟨rfl, hb7⟩
    clear b0 b1
    have HE7 := hid (HE6.out.low hb7)
    have HV7 := hid (HV6.out.below hb7 HV6.out.lt)
    have HF7 := hid (HF6.out.low hb7)
    have HP7 := hid (HP6.out.low hb7)
    have HRr7 := hid (HRr6.out.below hb7 HRr6.out.lt)
    have HB7 := hid (HB6.out.trans (hb7.mono HB6.out.size))
    clear HE6 HV6 HF6 HP6 HRr6 HB6 hb7
    have b0 := HV7.out.cell (k := 0) rfl
    have b1 := HV7.out.cell (k := 1) rfl
    go_wp2_with fail
    refine (bpf_none none (some ⟨M, 0, none⟩) w7 (btab_nof none M C w7 HF7.out HE7.out.pr) at0).mono ?_
    rintro e w8 ⟨rfl, hb8⟩
    clear b0 b1
    have HE8 := hid (HE7.out.low hb8)
    have HV8 := hid (HV7.out.below hb8 HV7.out.lt)
    have HF8 := hid (HF7.out.low hb8)
    have HP8 := hid (HP7.out.low hb8)
    have HRr8 := hid (HRr7.out.below hb8 HRr7.out.lt)
    have HB8 := hid (HB7.out.trans (hb8.mono HB7.out.size))
    clear HE7 HV7 HF7 HP7 HRr7 HB7 hb8
    have b0 := HV8.out.cell (k := 0) rfl
    have b1 := HV8.out.cell (k := 1) rfl
    go_wp2_with fail
    refine (bpf_none (some ⟨F, 0, none⟩) none w8 (btab_nop bs H.length Wd D F none w8 HE8.out.fd HP8.out) at0).mono ?_
    rintro e w9 ⟨rfl, hb9⟩
    clear b0 b1
    have HE9 := hid (HE8.out.low hb9)
    have HV9 := hid (HV8.out.below hb9 HV8.out.lt)
    have HF9 := hid (HF8.out.low hb9)
    have HP9 := hid (HP8.out.low hb9)
    have HRr9 := hid (HRr8.out.below hb9 HRr8.out.lt)
    have HB9 := hid (HB8.out.trans (hb9.mono HB8.out.size))
    clear HE8 HV8 HF8 HP8 HRr8 HB8 hb9
    have b0 := HV9.out.cell (k := 0) rfl
    have b1 := HV9.out.cell (k := 1) rfl
    go_wp2_with fail
    refine (bparse_none none w9 HF9.out).mono ?_
    rintro e w10 ⟨rfl, hb10⟩
    clear b0 b1
    have HE10 := hid (HE9.out.low hb10)
    have HV10 := hid (HV9.out.below hb10 HV9.out.lt)
    have HF10 := hid (HF9.out.low hb10)
    have HP10 := hid (HP9.out.low hb10)
    have HRr10 := hid (HRr9.out.below hb10 HRr9.out.lt)
    have HB10 := hid (HB9.out.trans (hb10.mono HB9.out.size))
    clear HE9 HV9 HF9 HP9 HRr9 HB9 hb10
    go_wp2_with fail
    refine wp_region_noPanic ?_
    refine wp_region_held_drew (S := (fun W' => Below w10.heap.size w10 W')) (by kernel_rfl) (Below.refl _ _).drew (fun hHeld => ?_)
    refine wpAnyH_take (i := 0) (v := .pointer none) (by simp only [List.getElem?_toArray, List.getElem?_cons_zero]; rfl) (by kernel_rfl) (by kernel_rfl) (by kernel_rfl) (fun _ _ _ h => h) (Or.inl ⟨by rfl, fun W hSw => ?_⟩) (by assumption) ?_
    · clear hSw
      go_simp
    simp only [Act.put, List.setIfInBounds_toArray, List.set_cons_zero, List.set_cons_succ]
    refine wpAnyH_take (i := 1) (v := .int .i64 at0) (by simp only [List.getElem?_toArray, List.getElem?_cons_zero, List.getElem?_cons_succ]; rfl) (by kernel_rfl) (by kernel_rfl) (by kernel_rfl) (fun _ _ _ h => h) (Or.inl ⟨by rfl, fun W hSw => ?_⟩) (by assumption) ?_
    · clear hSw
      go_simp
    simp only [Act.put, List.setIfInBounds_toArray, List.set_cons_zero, List.set_cons_succ]
    refine wpAnyH_take (i := 3) (v := .pointer none) (by simp only [List.getElem?_toArray, List.getElem?_cons_zero, List.getElem?_cons_succ]; rfl) (by kernel_rfl) (by kernel_rfl) (by kernel_rfl) (fun _ _ _ h => h) (Or.inl ⟨by rfl, fun W hSw => ?_⟩) (by assumption) ?_
    · clear hSw
      go_simp
    simp only [Act.put, List.setIfInBounds_toArray, List.set_cons_zero, List.set_cons_succ]
    refine wpAnyH_take (i := 4) (v := .pointer (some ⟨Q, 1, none⟩)) (by simp only [List.getElem?_toArray, List.getElem?_cons_zero, List.getElem?_cons_succ]; rfl) (by kernel_rfl) (by kernel_rfl) (by kernel_rfl) (fun _ _ _ h => h) (Or.inl ⟨by rfl, fun W hSw => ?_⟩) (by assumption) ?_
    · clear hSw
      go_simp
    simp only [Act.put, List.setIfInBounds_toArray, List.set_cons_zero, List.set_cons_succ]
    refine wpAnyH_take (i := 5) (v := .pointer (some ⟨M, 0, none⟩)) (by simp only [List.getElem?_toArray, List.getElem?_cons_zero, List.getElem?_cons_succ]; rfl) (by kernel_rfl) (by kernel_rfl) (by kernel_rfl) (fun _ _ _ h => h) (Or.inl ⟨by rfl, fun W hSw => ?_⟩) (by assumption) ?_
    · have cc := (HV10.out.below hSw HV10.out.lt).cell (k := 1) rfl
      clear hSw
      go_simp
    simp only [Act.put, List.setIfInBounds_toArray, List.set_cons_zero, List.set_cons_succ]
    refine wpAnyH_take (i := 7) (v := .pointer (some ⟨Q, 0, none⟩)) (by simp only [List.getElem?_toArray, List.getElem?_cons_zero, List.getElem?_cons_succ]; rfl) (by kernel_rfl) (by kernel_rfl) (by kernel_rfl) (fun _ _ _ h => h) (Or.inl ⟨by rfl, fun W hSw => ?_⟩) (by assumption) ?_
    · clear hSw
      go_simp
    simp only [Act.put, List.setIfInBounds_toArray, List.set_cons_zero, List.set_cons_succ]
    refine wpAnyH_take (i := 8) (v := .pointer (some ⟨F, 0, none⟩)) (by simp only [List.getElem?_toArray, List.getElem?_cons_zero, List.getElem?_cons_succ]; rfl) (by kernel_rfl) (by kernel_rfl) (by kernel_rfl) (fun _ _ _ h => h) (Or.inl ⟨by rfl, fun W hSw => ?_⟩) (by assumption) ?_
    · have cc := (HV10.out.below hSw HV10.out.lt).cell (k := 0) rfl
      clear hSw
      go_simp
    simp only [Act.put, List.setIfInBounds_toArray, List.set_cons_zero, List.set_cons_succ]
    refine wpAnyH_take (i := 9) (v := .pointer none) (by simp only [List.getElem?_toArray, List.getElem?_cons_zero, List.getElem?_cons_succ]; rfl) (by kernel_rfl) (by kernel_rfl) (by kernel_rfl) (fun _ _ _ h => h) (Or.inl ⟨by rfl, fun W hSw => ?_⟩) (by assumption) ?_
    · clear hSw
      go_simp
    simp only [Act.put, List.setIfInBounds_toArray, List.set_cons_zero, List.set_cons_succ]
    have hbd : Below w10.heap.size w10 w10.drew := (Below.refl _ _).drew
    generalize w10.drew = wd at *
    refine wpAnyH_ready (rs := [2]) (by kernel_rfl) (by simp) ?_
    refine AllReadyH.cons (by simp only [List.getElem?_toArray, List.getElem?_cons_zero, List.getElem?_cons_succ]; rfl) (fun K hK => ?_) AllReadyH.nil
    rw [if_pos (by rfl)]
    go_simp
    go_at_call 14
    refine (bcand_none none at0 wd (HF10.out.low hbd)).mono ?_
    rintro e w11 ⟨g, a5, rfl, _, hG, hb11⟩
    have hbe := hbd.trans (hb11.mono hbd.size)
    dsimp only
    refine hK.out _ _ hbe (fun _ => ?_)
    clear hK K hb11 hbd
    refine wpAnyH_ready (rs := [6]) (by kernel_rfl) (by simp) ?_
    refine AllReadyH.cons (by simp only [List.getElem?_toArray, List.getElem?_cons_zero, List.getElem?_cons_succ]; rfl) (fun K hK => ?_) AllReadyH.nil
    rw [if_pos (by rfl)]
    go_simp
    go_at_call 22
    refine (bcosts_none none (some ⟨M, 0, none⟩) w11 (btab_nof none M C w11 (HF10.out.low hbe) (HE10.out.pr.low hbe))).mono ?_
    rintro e w12 ⟨q2, v2, rfl, hb12, _, hQ2⟩
    have hbf := hbe.trans (hb12.mono hbe.size)
    have hG2 := hG.below hb12 hG.lt
    dsimp only
    refine hK.out _ _ hbf (fun _ => ?_)
    clear hK K hb12 hbe hG
    refine wpAnyH_ready (rs := [10]) (by kernel_rfl) (by simp) ?_
    refine AllReadyH.cons (by simp only [List.getElem?_toArray, List.getElem?_cons_zero, List.getElem?_cons_succ]; rfl) (fun K hK => ?_) AllReadyH.nil
    rw [if_pos (by rfl)]
    go_simp
    go_at_call 22
    refine (bcosts_none (some ⟨F, 0, none⟩) none w12 (btab_nop bs H.length Wd D F none w12 (HE10.out.fd.low hbf) (HP10.out.low hbf))).mono ?_
    rintro e w13 ⟨q3, v3, rfl, hb13, _, hQ3⟩
    have hbg := hbf.trans (hb13.mono hbf.size)
    have hG3 := hG2.below hb13 hG2.lt
    have hQ23 := hQ2.below hb13 hQ2.lt
    dsimp only
    refine hK.out _ _ hbg (fun _ => ?_)
    clear hK K hb13 hbf hG2 hQ2
    refine wpAnyH_ready (rs := [11]) (by kernel_rfl) (by simp) ?_
    refine AllReadyH.cons (by simp only [List.getElem?_toArray, List.getElem?_cons_zero, List.getElem?_cons_succ]; rfl) (fun K hK => ?_) AllReadyH.nil
    rw [if_pos (by rfl)]
    go_simp
    refine hK.out _ _ hbg (fun _ => ?_)
    clear hK K
    refine wpAnyH_ready (rs := [12]) (by kernel_rfl) (by simp) ?_
    refine AllReadyH.cons (by simp only [List.getElem?_toArray, List.getElem?_cons_zero, List.getElem?_cons_succ]; rfl) (fun K hK => ?_) AllReadyH.nil
    rw [if_pos (by rfl)]
    go_simp
    refine hK.out _ _ hbg (fun _ => ?_)
    clear hK K
    refine wpAnyH_ready (rs := [13]) (by kernel_rfl) (by simp) ?_
    refine AllReadyH.cons (by simp only [List.getElem?_toArray, List.getElem?_cons_zero, List.getElem?_cons_succ]; rfl) (fun K hK => ?_) AllReadyH.nil
    rw [if_pos (by rfl)]
    go_simp
    refine hK.out _ _ hbg (fun _ => ?_)
    clear hK K
    refine wpAnyH_done (by kernel_rfl) ?_ _
    refine NoPanic.normal ?_
    have hb13 := hbg
    clear hbg hHeld
    have HE13 := hid (HE10.out.low hb13)
    have HV13 := hid (HV10.out.below hb13 HV10.out.lt)
    have HF13 := hid (HF10.out.low hb13)
    have HP13 := hid (HP10.out.low hb13)
    have HRr13 := hid (HRr10.out.below hb13 HRr10.out.lt)
    have HB13 := hid (HB10.out.trans (hb13.mono HB10.out.size))
    clear HE10 HV10 HF10 HP10 HRr10 HB10 hb13
    have HG := hid hG3
    have HQ2 := hid hQ23
    have HQ3 := hid hQ3
    clear hG3 hQ23 hQ3 HE13 HV13 HF13 HP13
    have hfn1 := fun W => fn_nilB 36 #[.pointer (some ⟨g, 0, none⟩)] W
    have hfn2 := fun W => fn_nilJ 43 #[.pointer (some ⟨q2, 0, none⟩), v2] W
    have hfn3 := fun W => fn_nilJ 43 #[.pointer (some ⟨q3, 0, none⟩), v3] W
    go_wp2_with fail
    clear hfn1 hfn2 hfn3
    refine (wpIn_wide (n := 1)).1 ?_
    apply wpIn_rangeStA (gf := 36) (lb := #[.pointer (some ⟨g, 0, none⟩)]) rfl (enters_of Tryz.func36 (by kernel_rfl) rfl) (encs := encsP)
      (bcand1_seq (fun k => k < w13.heap.size) (fun _ => false) g a5 0 [] w13 (by decide) HG.out.lt (HG.out.cell (k := 0) rfl) (fun j u hu => by simp at hu)) (fun _ => rfl)
      (fun _ W => Below w13.heap.size w13 W) (fun _ _ _ => False) (fun _ _ _ _ h hg hr => h.grown hg h.size (fun k hk => (hr _ hk).1)) (fun _ _ _ _ _ h _ _ => h) (Below.refl _ _)
      0 (fun _ W => Below w13.heap.size w13 W) (fun _ _ _ h => h) (fun _ _ _ _ h => h.elim) (fun _ _ h => h)
    case hassign =>
      intro l' x W K hK
      unfold encsP
      gi_wp2
      exact hK
    case hbody =>
      rintro l' pre x W hI ⟨rest, hSp⟩
      exact absurd hSp (by simp [enumQ])
    case hrest =>
      rintro D1 xs1 W hDD hF hK
      have HR14 := hid (HRr13.out.below hF HRr13.out.lt)
      have HB14 := hid (HB13.out.trans (hF.mono HB13.out.size))
      have HQ24 := hid (HQ2.out.below hF HQ2.out.lt)
      have HQ34 := hid (HQ3.out.below hF HQ3.out.lt)
      have HK1 := hid hK
      have HL1 := hid (show w.heap.size + 1 < D1 from Nat.lt_of_lt_of_le HRr13.out.lt hDD)
      clear hF hK hDD HRr13 HB13 HQ2 HQ3 HG
      generalize W = w14 at *
      go_wp2_with fail
      refine (wpIn_wide (n := 1)).1 ?_
      apply wpIn_rangeStA (gf := 43) (lb := #[.pointer (some ⟨q2, 0, none⟩), v2]) rfl (enters_of Tryz.func43 (by kernel_rfl) rfl) (encs := fun x : Int × Int => #[.int .i64 x.1, .int .i64 x.2])
        (bcosts1_none (fun k => k < w14.heap.size) (fun _ => false) q2 v2 w14 HQ24.out.lt (HQ24.out.cell (k := 0) rfl)) (fun _ => rfl)
        (fun _ W => Below w14.heap.size w14 W) (fun _ _ _ => False) (fun _ _ _ _ h hg hr => h.grown hg h.size (fun k hk => (hr _ hk).1)) (fun _ _ _ _ _ h _ _ => h) (Below.refl _ _)
        2 (fun _ W => Below w14.heap.size w14 W) (fun _ _ _ h => h) (fun _ _ _ _ h => h.elim) (fun _ _ h => h)
      case hassign =>
        intro l' x W K hK
        gi_wp2
        exact hK
      case hbody =>
        rintro l' pre x W hI ⟨rest, hSp⟩
        exact absurd hSp (by simp [enumI])
      case hrest =>
        rintro D2 xs2 W hDD hF hK
        have HR15 := hid (HR14.out.below hF HR14.out.lt)
        have HB15 := hid (HB14.out.trans (hF.mono HB14.out.size))
        have HQ35 := hid (HQ34.out.below hF HQ34.out.lt)
        have HK1b := hid (at_low' hF HK1.out)
        have HK2 := hid hK
        have HL2 := hid (show D1 < D2 from Nat.lt_of_lt_of_le (Array.getElem?_eq_some_iff.1 HK1.out).1 hDD)
        clear hF hK hDD HR14 HB14 HQ24 HQ34 HK1
        generalize W = w15 at *
        go_wp2_with fail
        refine (wpIn_wide (n := 1)).1 ?_
        apply wpIn_rangeStA (gf := 43) (lb := #[.pointer (some ⟨q3, 0, none⟩), v3]) rfl (enters_of Tryz.func43 (by kernel_rfl) rfl) (encs := fun x : Int × Int => #[.int .i64 x.1, .int .i64 x.2])
          (bcosts1_none (fun k => k < w15.heap.size) (fun _ => false) q3 v3 w15 HQ35.out.lt (HQ35.out.cell (k := 0) rfl)) (fun _ => rfl)
          (fun _ W => Below w15.heap.size w15 W) (fun _ _ _ => False) (fun _ _ _ _ h hg hr => h.grown hg h.size (fun k hk => (hr _ hk).1)) (fun _ _ _ _ _ h _ _ => h) (Below.refl _ _)
          4 (fun _ W => Below w15.heap.size w15 W) (fun _ _ _ h => h) (fun _ _ _ _ h => h.elim) (fun _ _ h => h)
        case hassign =>
          intro l' x W K hK
          gi_wp2
          exact hK
        case hbody =>
          rintro l' pre x W hI ⟨rest, hSp⟩
          exact absurd hSp (by simp [enumI])
        case hrest =>
          rintro D3 xs3 W hDD hF hK
          have HR16 := hid (HR15.out.below hF HR15.out.lt)
          have HB16 := hid (HB15.out.trans (hF.mono HB15.out.size))
          have HK1c := hid (at_low' hF HK1b.out)
          have HK2c := hid (at_low' hF HK2.out)
          have HK3 := hid hK
          have HL3 := hid (show D2 < D3 from Nat.lt_of_lt_of_le (Array.getElem?_eq_some_iff.1 HK2.out).1 hDD)
          clear hF hK hDD HR15 HB15 HQ35 HK1b HK2
          generalize W = w16 at *
          go_wp2_with (go_at_call 17; refine (num33_any _ _).mono ?_; rintro e w' ⟨rfl, rfl⟩)
          refine (HW.out _).mono ?_
          rintro e w17 ⟨rfl, hb17⟩
          have HR17 := hid (HR16.out.below hb17 HR16.out.lt)
          have HB17 := hid (HB16.out.trans (hb17.mono HB16.out.size))
          have HK1d := hid (at_low' hb17 HK1c.out)
          have HK2d := hid (at_low' hb17 HK2c.out)
          have HK3d := hid (at_low' hb17 HK3.out)
          have r17 := HR17.out.cell (k := 0) rfl
          have z17 := HR17.out.frozen 0
          clear hb17 HR16 HB16 HK1c HK2c HK3
          go_wp2
          have hrs := HR17.out.set 0 (.bool true)
          have hbs := HB17.out.setCell (p := ⟨w.heap.size + 1, 0, none⟩) (Nat.le_succ _) (.bool true)
          have hl1 := HL1.out
          have hl2 := HL2.out
          have hl3 := HL3.out
          have hK3 : (w17.setCell ⟨w.heap.size + 1, 0, none⟩ (.bool true)).heap[D3]? = some (.deferred (some [])) := (Below.heap_setCell _ _ _ _ (by dsimp only; omega)).trans HK3d.out
          have hK2 : (w17.setCell ⟨w.heap.size + 1, 0, none⟩ (.bool true)).heap[D2]? = some (.deferred (some [])) := (Below.heap_setCell _ _ _ _ (by dsimp only; omega)).trans HK2d.out
          have hK1 : (w17.setCell ⟨w.heap.size + 1, 0, none⟩ (.bool true)).heap[D1]? = some (.deferred (some [])) := (Below.heap_setCell _ _ _ _ (by dsimp only; omega)).trans HK1d.out
          clear r17 z17
          generalize w17.setCell ⟨w.heap.size + 1, 0, none⟩ (.bool true) = W9 at *
          refine ⟨by simp, .inl ⟨_, _, rfl, run_takeDeferred hK3, ?_⟩⟩
          have hK2b := fun o => (World.putObj_heap_other (w := W9) (r := D3) (o := o) (k := D2) (by omega)).trans hK2
          refine ⟨by simp, .inl ⟨_, _, rfl, run_takeDeferred (hK2b _), ?_⟩⟩
          have hK1b := fun o o' => (World.putObj_heap_other (w := W9.putObj D3 o) (r := D2) (o := o') (k := D1) (by omega)).trans ((World.putObj_heap_other (w := W9) (r := D3) (o := o) (k := D1) (by omega)).trans hK1)
          refine ⟨by simp, .inl ⟨_, _, rfl, run_takeDeferred (hK1b _ _), ?_⟩⟩
          have k1 : ∀ o o' o'', Blk (((W9.putObj D3 o).putObj D2 o').putObj D1 o'') (w.heap.size + 1) [.bool true] 4 := fun o o' o'' => (World.putObj_heap_other (by omega)).trans ((World.putObj_heap_other (by omega)).trans ((World.putObj_heap_other (by omega)).trans hrs))
          have q1 := fun o o' o'' => (k1 o o' o'').cell (k := 0) rfl
          have hsz9 := hbs.size
          have hb9 := fun o => hbs.grown (grownBy_putObj' W9 D3 o) hsz9 (fun k hk => by cases hk; omega)
          have hb8 := fun o o' => (hb9 o).grown (grownBy_putObj' (W9.putObj D3 o) D2 o') (hb9 o).size (fun k hk => by cases hk; omega)
          refine ⟨.bool true, by simp [results, Tryz.results10, go_sem, q1], rfl, (hb8 _ _).grown (grownBy_putObj' _ _ _) (hb8 _ _).size (fun k hk => by cases hk; omega)⟩
  · have hbz : Below w2.heap.size w2 ((w2.alloc (.cells #[.pointer none, .slice none 0 0, .int .i64 0, .int .i64 0, .int .i64 0] 76)).alloc (.cells #[.pointer none] 79)) := (below_new w2 _).alloc (by simp) _
    have HE3 := hid (HE2.out.low hbz)
    have HV3 := hid (HV2.out.below hbz HV2.out.lt)
    have HRr3 := hid (HRr2.out.below hbz HRr2.out.lt)
    have HB3 := hid (HB2.out.trans (hbz.mono HB2.out.size))
    have HF3 := hid (show NoFd (some ⟨w2.heap.size, 0, none⟩) ((w2.alloc (.cells #[.pointer none, .slice none 0 0, .int .i64 0, .int .i64 0, .int .i64 0] 76)).alloc (.cells #[.pointer none] 79)) from .inr ⟨_, rfl, (Blk.newAt rfl).alloc _⟩)
    have HP3 := hid (show NoPr ((w2.alloc (.cells #[.pointer none, .slice none 0 0, .int .i64 0, .int .i64 0, .int .i64 0] 76)).alloc (.cells #[.pointer none] 79)) (some ⟨w2.heap.size + 1, 0, none⟩) from .inr ⟨_, rfl, Blk.newAt (by simp)⟩)
    clear HE2 HV2 HRr2 HB2 hbz
    go_upto_region 8 with fail
    generalize ((w2.alloc (.cells #[.pointer none, .slice none 0 0, .int .i64 0, .int .i64 0, .int .i64 0] 76)).alloc (.cells #[.pointer none] 79)) = w3 at *
    generalize w2.heap.size = Z at *
    have b0 := HV3.out.cell (k := 0) rfl
    have b1 := HV3.out.cell (k := 1) rfl
    go_wp2_with fail
    refine (bmin_none (some ⟨Z, 0, none⟩) (some ⟨M, 0, none⟩) w3 (btab_nof (some ⟨Z, 0, none⟩) M C w3 HF3.out HE3.out.pr)).mono ?_
    rintro e w4 ⟨rfl, hb4⟩
    clear b0 b1
    have HE4 := hid (HE3.out.low hb4)
    have HV4 := hid (HV3.out.below hb4 HV3.out.lt)
    have HF4 := hid (HF3.out.low hb4)
    have HP4 := hid (HP3.out.low hb4)
    have HRr4 := hid (HRr3.out.below hb4 HRr3.out.lt)
    have HB4 := hid (HB3.out.trans (hb4.mono HB3.out.size))
    clear HE3 HV3 HF3 HP3 HRr3 HB3 hb4
    have b0 := HV4.out.cell (k := 0) rfl
    have b1 := HV4.out.cell (k := 1) rfl
    go_wp2_with fail
    refine (bmin_none (some ⟨F, 0, none⟩) (some ⟨Z + 1, 0, none⟩) w4 (btab_nop bs H.length Wd D F (some ⟨Z + 1, 0, none⟩) w4 HE4.out.fd HP4.out)).mono ?_
    rintro e w5 ⟨rfl, hb5⟩
    clear b0 b1
    have HE5 := hid (HE4.out.low hb5)
    have HV5 := hid (HV4.out.below hb5 HV4.out.lt)
    have HF5 := hid (HF4.out.low hb5)
    have HP5 := hid (HP4.out.low hb5)
    have HRr5 := hid (HRr4.out.below hb5 HRr4.out.lt)
    have HB5 := hid (HB4.out.trans (hb5.mono HB4.out.size))
    clear HE4 HV4 HF4 HP4 HRr4 HB4 hb5
    have b0 := HV5.out.cell (k := 0) rfl
    have b1 := HV5.out.cell (k := 1) rfl
    go_wp2_with fail
    refine (bpm_none (some ⟨Z, 0, none⟩) (some ⟨M, 0, none⟩) w5 (btab_nof (some ⟨Z, 0, none⟩) M C w5 HF5.out HE5.out.pr)).mono ?_
    rintro e w6 ⟨rfl, hb6⟩
    clear b0 b1
    have HE6 := hid (HE5.out.low hb6)
    have HV6 := hid (HV5.out.below hb6 HV5.out.lt)
    have HF6 := hid (HF5.out.low hb6)
    have HP6 := hid (HP5.out.low hb6)
    have HRr6 := hid (HRr5.out.below hb6 HRr5.out.lt)
    have HB6 := hid (HB5.out.trans (hb6.mono HB5.out.size))
    clear HE5 HV5 HF5 HP5 HRr5 HB5 hb6
    have b0 := HV6.out.cell (k := 0) rfl
    have b1 := HV6.out.cell (k := 1) rfl
    go_wp2_with fail
    refine (bpm_none (some ⟨F, 0, none⟩) (some ⟨Z + 1, 0, none⟩) w6 (btab_nop bs H.length Wd D F (some ⟨Z + 1, 0, none⟩) w6 HE6.out.fd HP6.out)).mono ?_
    rintro e w7 ⟨rfl, hb7⟩
    clear b0 b1
    have HE7 := hid (HE6.out.low hb7)
    have HV7 := hid (HV6.out.below hb7 HV6.out.lt)
    have HF7 := hid (HF6.out.low hb7)
    have HP7 := hid (HP6.out.low hb7)
    have HRr7 := hid (HRr6.out.below hb7 HRr6.out.lt)
    have HB7 := hid (HB6.out.trans (hb7.mono HB6.out.size))
    clear HE6 HV6 HF6 HP6 HRr6 HB6 hb7
    have b0 := HV7.out.cell (k := 0) rfl
    have b1 := HV7.out.cell (k := 1) rfl
    go_wp2_with fail
    refine (bpf_none (some ⟨Z, 0, none⟩) (some ⟨M, 0, none⟩) w7 (btab_nof (some ⟨Z, 0, none⟩) M C w7 HF7.out HE7.out.pr) at0).mono ?_
    rintro e w8 ⟨rfl, hb8⟩
    clear b0 b1
    have HE8 := hid (HE7.out.low hb8)
    have HV8 := hid (HV7.out.below hb8 HV7.out.lt)
    have HF8 := hid (HF7.out.low hb8)
    have HP8 := hid (HP7.out.low hb8)
    have HRr8 := hid (HRr7.out.below hb8 HRr7.out.lt)
    have HB8 := hid (HB7.out.trans (hb8.mono HB7.out.size))
    clear HE7 HV7 HF7 HP7 HRr7 HB7 hb8
    have b0 := HV8.out.cell (k := 0) rfl
    have b1 := HV8.out.cell (k := 1) rfl
    go_wp2_with fail
    refine (bpf_none (some ⟨F, 0, none⟩) (some ⟨Z + 1, 0, none⟩) w8 (btab_nop bs H.length Wd D F (some ⟨Z + 1, 0, none⟩) w8 HE8.out.fd HP8.out) at0).mono ?_
    rintro e w9 ⟨rfl, hb9⟩
    clear b0 b1
    have HE9 := hid (HE8.out.low hb9)
    have HV9 := hid (HV8.out.below hb9 HV8.out.lt)
    have HF9 := hid (HF8.out.low hb9)
    have HP9 := hid (HP8.out.low hb9)
    have HRr9 := hid (HRr8.out.below hb9 HRr8.out.lt)
    have HB9 := hid (HB8.out.trans (hb9.mono HB8.out.size))
    clear HE8 HV8 HF8 HP8 HRr8 HB8 hb9
    have b0 := HV9.out.cell (k := 0) rfl
    have b1 := HV9.out.cell (k := 1) rfl
    go_wp2_with fail
    refine (bparse_none (some ⟨Z, 0, none⟩) w9 HF9.out).mono ?_
    rintro e w10 ⟨rfl, hb10⟩
    clear b0 b1
    have HE10 := hid (HE9.out.low hb10)
    have HV10 := hid (HV9.out.below hb10 HV9.out.lt)
    have HF10 := hid (HF9.out.low hb10)
    have HP10 := hid (HP9.out.low hb10)
    have HRr10 := hid (HRr9.out.below hb10 HRr9.out.lt)
    have HB10 := hid (HB9.out.trans (hb10.mono HB9.out.size))
    clear HE9 HV9 HF9 HP9 HRr9 HB9 hb10
    go_wp2_with fail
    refine wp_region_noPanic ?_
    refine wp_region_held_drew (S := (fun W' => Below w10.heap.size w10 W')) (by kernel_rfl) (Below.refl _ _).drew (fun hHeld => ?_)
    refine wpAnyH_take (i := 0) (v := .pointer (some ⟨Z, 0, none⟩)) (by simp only [List.getElem?_toArray, List.getElem?_cons_zero]; rfl) (by kernel_rfl) (by kernel_rfl) (by kernel_rfl) (fun _ _ _ h => h) (Or.inl ⟨by rfl, fun W hSw => ?_⟩) (by assumption) ?_
    · clear hSw
      go_simp
    simp only [Act.put, List.setIfInBounds_toArray, List.set_cons_zero, List.set_cons_succ]
    refine wpAnyH_take (i := 1) (v := .int .i64 at0) (by simp only [List.getElem?_toArray, List.getElem?_cons_zero, List.getElem?_cons_succ]; rfl) (by kernel_rfl) (by kernel_rfl) (by kernel_rfl) (fun _ _ _ h => h) (Or.inl ⟨by rfl, fun W hSw => ?_⟩) (by assumption) ?_
    · clear hSw
      go_simp
    simp only [Act.put, List.setIfInBounds_toArray, List.set_cons_zero, List.set_cons_succ]
    refine wpAnyH_take (i := 3) (v := .pointer (some ⟨Z, 0, none⟩)) (by simp only [List.getElem?_toArray, List.getElem?_cons_zero, List.getElem?_cons_succ]; rfl) (by kernel_rfl) (by kernel_rfl) (by kernel_rfl) (fun _ _ _ h => h) (Or.inl ⟨by rfl, fun W hSw => ?_⟩) (by assumption) ?_
    · clear hSw
      go_simp
    simp only [Act.put, List.setIfInBounds_toArray, List.set_cons_zero, List.set_cons_succ]
    refine wpAnyH_take (i := 4) (v := .pointer (some ⟨Q, 1, none⟩)) (by simp only [List.getElem?_toArray, List.getElem?_cons_zero, List.getElem?_cons_succ]; rfl) (by kernel_rfl) (by kernel_rfl) (by kernel_rfl) (fun _ _ _ h => h) (Or.inl ⟨by rfl, fun W hSw => ?_⟩) (by assumption) ?_
    · clear hSw
      go_simp
    simp only [Act.put, List.setIfInBounds_toArray, List.set_cons_zero, List.set_cons_succ]
    refine wpAnyH_take (i := 5) (v := .pointer (some ⟨M, 0, none⟩)) (by simp only [List.getElem?_toArray, List.getElem?_cons_zero, List.getElem?_cons_succ]; rfl) (by kernel_rfl) (by kernel_rfl) (by kernel_rfl) (fun _ _ _ h => h) (Or.inl ⟨by rfl, fun W hSw => ?_⟩) (by assumption) ?_
    · have cc := (HV10.out.below hSw HV10.out.lt).cell (k := 1) rfl
      clear hSw
      go_simp
    simp only [Act.put, List.setIfInBounds_toArray, List.set_cons_zero, List.set_cons_succ]
    refine wpAnyH_take (i := 7) (v := .pointer (some ⟨Q, 0, none⟩)) (by simp only [List.getElem?_toArray, List.getElem?_cons_zero, List.getElem?_cons_succ]; rfl) (by kernel_rfl) (by kernel_rfl) (by kernel_rfl) (fun _ _ _ h => h) (Or.inl ⟨by rfl, fun W hSw => ?_⟩) (by assumption) ?_
    · clear hSw
      go_simp
    simp only [Act.put, List.setIfInBounds_toArray, List.set_cons_zero, List.set_cons_succ]
    refine wpAnyH_take (i := 8) (v := .pointer (some ⟨F, 0, none⟩)) (by simp only [List.getElem?_toArray, List.getElem?_cons_zero, List.getElem?_cons_succ]; rfl) (by kernel_rfl) (by kernel_rfl) (by kernel_rfl) (fun _ _ _ h => h) (Or.inl ⟨by rfl, fun W hSw => ?_⟩) (by assumption) ?_
    · have cc := (HV10.out.below hSw HV10.out.lt).cell (k := 0) rfl
      clear hSw
      go_simp
    simp only [Act.put, List.setIfInBounds_toArray, List.set_cons_zero, List.set_cons_succ]
    refine wpAnyH_take (i := 9) (v := .pointer (some ⟨Z + 1, 0, none⟩)) (by simp only [List.getElem?_toArray, List.getElem?_cons_zero, List.getElem?_cons_succ]; rfl) (by kernel_rfl) (by kernel_rfl) (by kernel_rfl) (fun _ _ _ h => h) (Or.inl ⟨by rfl, fun W hSw => ?_⟩) (by assumption) ?_
    · clear hSw
      go_simp
    simp only [Act.put, List.setIfInBounds_toArray, List.set_cons_zero, List.set_cons_succ]
    have hbd : Below w10.heap.size w10 w10.drew := (Below.refl _ _).drew
    generalize w10.drew = wd at *
    refine wpAnyH_ready (rs := [2]) (by kernel_rfl) (by simp) ?_
    refine AllReadyH.cons (by simp only [List.getElem?_toArray, List.getElem?_cons_zero, List.getElem?_cons_succ]; rfl) (fun K hK => ?_) AllReadyH.nil
    rw [if_pos (by rfl)]
    go_simp
    go_at_call 14
    refine (bcand_none (some ⟨Z, 0, none⟩) at0 wd (HF10.out.low hbd)).mono ?_
    rintro e w11 ⟨g, a5, rfl, _, hG, hb11⟩
    have hbe := hbd.trans (hb11.mono hbd.size)
    dsimp only
    refine hK.out _ _ hbe (fun _ => ?_)
    clear hK K hb11 hbd
    refine wpAnyH_ready (rs := [6]) (by kernel_rfl) (by simp) ?_
    refine AllReadyH.cons (by simp only [List.getElem?_toArray, List.getElem?_cons_zero, List.getElem?_cons_succ]; rfl) (fun K hK => ?_) AllReadyH.nil
    rw [if_pos (by rfl)]
    go_simp
    go_at_call 22
    refine (bcosts_none (some ⟨Z, 0, none⟩) (some ⟨M, 0, none⟩) w11 (btab_nof (some ⟨Z, 0, none⟩) M C w11 (HF10.out.low hbe) (HE10.out.pr.low hbe))).mono ?_
    rintro e w12 ⟨q2, v2, rfl, hb12, _, hQ2⟩
    have hbf := hbe.trans (hb12.mono hbe.size)
    have hG2 := hG.below hb12 hG.lt
    dsimp only
    refine hK.out _ _ hbf (fun _ => ?_)
    clear hK K hb12 hbe hG
    refine wpAnyH_ready (rs := [10]) (by kernel_rfl) (by simp) ?_
    refine AllReadyH.cons (by simp only [List.getElem?_toArray, List.getElem?_cons_zero, List.getElem?_cons_succ]; rfl) (fun K hK => ?_) AllReadyH.nil
    rw [if_pos (by rfl)]
    go_simp
    go_at_call 22
    refine (bcosts_none (some ⟨F, 0, none⟩) (some ⟨Z + 1, 0, none⟩) w12 (btab_nop bs H.length Wd D F (some ⟨Z + 1, 0, none⟩) w12 (HE10.out.fd.low hbf) (HP10.out.low hbf))).mono ?_
    rintro e w13 ⟨q3, v3, rfl, hb13, _, hQ3⟩
    have hbg := hbf.trans (hb13.mono hbf.size)
    have hG3 := hG2.below hb13 hG2.lt
    have hQ23 := hQ2.below hb13 hQ2.lt
    dsimp only
    refine hK.out _ _ hbg (fun _ => ?_)
    clear hK K hb13 hbf hG2 hQ2
    refine wpAnyH_ready (rs := [11]) (by kernel_rfl) (by simp) ?_
    refine AllReadyH.cons (by simp only [List.getElem?_toArray, List.getElem?_cons_zero, List.getElem?_cons_succ]; rfl) (fun K hK => ?_) AllReadyH.nil
    rw [if_pos (by rfl)]
    go_simp
    refine hK.out _ _ hbg (fun _ => ?_)
    clear hK K
    refine wpAnyH_ready (rs := [12]) (by kernel_rfl) (by simp) ?_
    refine AllReadyH.cons (by simp only [List.getElem?_toArray, List.getElem?_cons_zero, List.getElem?_cons_succ]; rfl) (fun K hK => ?_) AllReadyH.nil
    rw [if_pos (by rfl)]
    go_simp
    refine hK.out _ _ hbg (fun _ => ?_)
    clear hK K
    refine wpAnyH_ready (rs := [13]) (by kernel_rfl) (by simp) ?_
    refine AllReadyH.cons (by simp only [List.getElem?_toArray, List.getElem?_cons_zero, List.getElem?_cons_succ]; rfl) (fun K hK => ?_) AllReadyH.nil
    rw [if_pos (by rfl)]
    go_simp
    refine hK.out _ _ hbg (fun _ => ?_)
    clear hK K
    refine wpAnyH_done (by kernel_rfl) ?_ _
    refine NoPanic.normal ?_
    have hb13 := hbg
    clear hbg hHeld
    have HE13 := hid (HE10.out.low hb13)
    have HV13 := hid (HV10.out.below hb13 HV10.out.lt)
    have HF13 := hid (HF10.out.low hb13)
    have HP13 := hid (HP10.out.low hb13)
    have HRr13 := hid (HRr10.out.below hb13 HRr10.out.lt)
    have HB13 := hid (HB10.out.trans (hb13.mono HB10.out.size))
    clear HE10 HV10 HF10 HP10 HRr10 HB10 hb13
    have HG := hid hG3
    have HQ2 := hid hQ23
    have HQ3 := hid hQ3
    clear hG3 hQ23 hQ3 HE13 HV13 HF13 HP13
    have hfn1 := fun W => fn_nilB 36 #[.pointer (some ⟨g, 0, none⟩)] W
    have hfn2 := fun W => fn_nilJ 43 #[.pointer (some ⟨q2, 0, none⟩), v2] W
    have hfn3 := fun W => fn_nilJ 43 #[.pointer (some ⟨q3, 0, none⟩), v3] W
    go_wp2_with fail
    clear hfn1 hfn2 hfn3
    refine (wpIn_wide (n := 1)).1 ?_
    apply wpIn_rangeStA (gf := 36) (lb := #[.pointer (some ⟨g, 0, none⟩)]) rfl (enters_of Tryz.func36 (by kernel_rfl) rfl) (encs := encsP)
      (bcand1_seq (fun k => k < w13.heap.size) (fun _ => false) g a5 0 [] w13 (by decide) HG.out.lt (HG.out.cell (k := 0) rfl) (fun j u hu => by simp at hu)) (fun _ => rfl)
      (fun _ W => Below w13.heap.size w13 W) (fun _ _ _ => False) (fun _ _ _ _ h hg hr => h.grown hg h.size (fun k hk => (hr _ hk).1)) (fun _ _ _ _ _ h _ _ => h) (Below.refl _ _)
      0 (fun _ W => Below w13.heap.size w13 W) (fun _ _ _ h => h) (fun _ _ _ _ h => h.elim) (fun _ _ h => h)
    case hassign =>
      intro l' x W K hK
      unfold encsP
      gi_wp2
      exact hK
    case hbody =>
      rintro l' pre x W hI ⟨rest, hSp⟩
      exact absurd hSp (by simp [enumQ])
    case hrest =>
      rintro D1 xs1 W hDD hF hK
      have HR14 := hid (HRr13.out.below hF HRr13.out.lt)
      have HB14 := hid (HB13.out.trans (hF.mono HB13.out.size))
      have HQ24 := hid (HQ2.out.below hF HQ2.out.lt)
      have HQ34 := hid (HQ3.out.below hF HQ3.out.lt)
      have HK1 := hid hK
      have HL1 := hid (show w.heap.size + 1 < D1 from Nat.lt_of_lt_of_le HRr13.out.lt hDD)
      clear hF hK hDD HRr13 HB13 HQ2 HQ3 HG
      generalize W = w14 at *
      go_wp2_with fail
      refine (wpIn_wide (n := 1)).1 ?_
      apply wpIn_rangeStA (gf := 43) (lb := #[.pointer (some ⟨q2, 0, none⟩), v2]) rfl (enters_of Tryz.func43 (by kernel_rfl) rfl) (encs := fun x : Int × Int => #[.int .i64 x.1, .int .i64 x.2])
        (bcosts1_none (fun k => k < w14.heap.size) (fun _ => false) q2 v2 w14 HQ24.out.lt (HQ24.out.cell (k := 0) rfl)) (fun _ => rfl)
        (fun _ W => Below w14.heap.size w14 W) (fun _ _ _ => False) (fun _ _ _ _ h hg hr => h.grown hg h.size (fun k hk => (hr _ hk).1)) (fun _ _ _ _ _ h _ _ => h) (Below.refl _ _)
        2 (fun _ W => Below w14.heap.size w14 W) (fun _ _ _ h => h) (fun _ _ _ _ h => h.elim) (fun _ _ h => h)
      case hassign =>
        intro l' x W K hK
        gi_wp2
        exact hK
      case hbody =>
        rintro l' pre x W hI ⟨rest, hSp⟩
        exact absurd hSp (by simp [enumI])
      case hrest =>
        rintro D2 xs2 W hDD hF hK
        have HR15 := hid (HR14.out.below hF HR14.out.lt)
        have HB15 := hid (HB14.out.trans (hF.mono HB14.out.size))
        have HQ35 := hid (HQ34.out.below hF HQ34.out.lt)
        have HK1b := hid (at_low' hF HK1.out)
        have HK2 := hid hK
        have HL2 := hid (show D1 < D2 from Nat.lt_of_lt_of_le (Array.getElem?_eq_some_iff.1 HK1.out).1 hDD)
        clear hF hK hDD HR14 HB14 HQ24 HQ34 HK1
        generalize W = w15 at *
        go_wp2_with fail
        refine (wpIn_wide (n := 1)).1 ?_
        apply wpIn_rangeStA (gf := 43) (lb := #[.pointer (some ⟨q3, 0, none⟩), v3]) rfl (enters_of Tryz.func43 (by kernel_rfl) rfl) (encs := fun x : Int × Int => #[.int .i64 x.1, .int .i64 x.2])
          (bcosts1_none (fun k => k < w15.heap.size) (fun _ => false) q3 v3 w15 HQ35.out.lt (HQ35.out.cell (k := 0) rfl)) (fun _ => rfl)
          (fun _ W => Below w15.heap.size w15 W) (fun _ _ _ => False) (fun _ _ _ _ h hg hr => h.grown hg h.size (fun k hk => (hr _ hk).1)) (fun _ _ _ _ _ h _ _ => h) (Below.refl _ _)
          4 (fun _ W => Below w15.heap.size w15 W) (fun _ _ _ h => h) (fun _ _ _ _ h => h.elim) (fun _ _ h => h)
        case hassign =>
          intro l' x W K hK
          gi_wp2
          exact hK
        case hbody =>
          rintro l' pre x W hI ⟨rest, hSp⟩
          exact absurd hSp (by simp [enumI])
        case hrest =>
          rintro D3 xs3 W hDD hF hK
          have HR16 := hid (HR15.out.below hF HR15.out.lt)
          have HB16 := hid (HB15.out.trans (hF.mono HB15.out.size))
          have HK1c := hid (at_low' hF HK1b.out)
          have HK2c := hid (at_low' hF HK2.out)
          have HK3 := hid hK
          have HL3 := hid (show D2 < D3 from Nat.lt_of_lt_of_le (Array.getElem?_eq_some_iff.1 HK2.out).1 hDD)
          clear hF hK hDD HR15 HB15 HQ35 HK1b HK2
          generalize W = w16 at *
          go_wp2_with (go_at_call 17; refine (num33_any _ _).mono ?_; rintro e w' ⟨rfl, rfl⟩)
          refine (HW.out _).mono ?_
          rintro e w17 ⟨rfl, hb17⟩
          have HR17 := hid (HR16.out.below hb17 HR16.out.lt)
          have HB17 := hid (HB16.out.trans (hb17.mono HB16.out.size))
          have HK1d := hid (at_low' hb17 HK1c.out)
          have HK2d := hid (at_low' hb17 HK2c.out)
          have HK3d := hid (at_low' hb17 HK3.out)
          have r17 := HR17.out.cell (k := 0) rfl
          have z17 := HR17.out.frozen 0
          clear hb17 HR16 HB16 HK1c HK2c HK3
          go_wp2
          have hrs := HR17.out.set 0 (.bool true)
          have hbs := HB17.out.setCell (p := ⟨w.heap.size + 1, 0, none⟩) (Nat.le_succ _) (.bool true)
          have hl1 := HL1.out
          have hl2 := HL2.out
          have hl3 := HL3.out
          have hK3 : (w17.setCell ⟨w.heap.size + 1, 0, none⟩ (.bool true)).heap[D3]? = some (.deferred (some [])) := (Below.heap_setCell _ _ _ _ (by dsimp only; omega)).trans HK3d.out
          have hK2 : (w17.setCell ⟨w.heap.size + 1, 0, none⟩ (.bool true)).heap[D2]? = some (.deferred (some [])) := (Below.heap_setCell _ _ _ _ (by dsimp only; omega)).trans HK2d.out
          have hK1 : (w17.setCell ⟨w.heap.size + 1, 0, none⟩ (.bool true)).heap[D1]? = some (.deferred (some [])) := (Below.heap_setCell _ _ _ _ (by dsimp only; omega)).trans HK1d.out
          clear r17 z17
          generalize w17.setCell ⟨w.heap.size + 1, 0, none⟩ (.bool true) = W9 at *
          refine ⟨by simp, .inl ⟨_, _, rfl, run_takeDeferred hK3, ?_⟩⟩
          have hK2b := fun o => (World.putObj_heap_other (w := W9) (r := D3) (o := o) (k := D2) (by omega)).trans hK2
          refine ⟨by simp, .inl ⟨_, _, rfl, run_takeDeferred (hK2b _), ?_⟩⟩
          have hK1b := fun o o' => (World.putObj_heap_other (w := W9.putObj D3 o) (r := D2) (o := o') (k := D1) (by omega)).trans ((World.putObj_heap_other (w := W9) (r := D3) (o := o) (k := D1) (by omega)).trans hK1)
          refine ⟨by simp, .inl ⟨_, _, rfl, run_takeDeferred (hK1b _ _), ?_⟩⟩
          have k1 : ∀ o o' o'', Blk (((W9.putObj D3 o).putObj D2 o').putObj D1 o'') (w.heap.size + 1) [.bool true] 4 := fun o o' o'' => (World.putObj_heap_other (by omega)).trans ((World.putObj_heap_other (by omega)).trans ((World.putObj_heap_other (by omega)).trans hrs))
          have q1 := fun o o' o'' => (k1 o o' o'').cell (k := 0) rfl
          have hsz9 := hbs.size
          have hb9 := fun o => hbs.grown (grownBy_putObj' W9 D3 o) hsz9 (fun k hk => by cases hk; omega)
          have hb8 := fun o o' => (hb9 o).grown (grownBy_putObj' (W9.putObj D3 o) D2 o') (hb9 o).size (fun k hk => by cases hk; omega)
          refine ⟨.bool true, by simp [results, Tryz.results10, go_sem, q1], rfl, (hb8 _ _).grown (grownBy_putObj' _ _ _) (hb8 _ _).size (fun k hk => by cases hk; omega)⟩
end Go.Proofs.YtiagbejfghincaaGreat
namespace Go.Proofs.YtiagbejfghincaaGreat.LBestNone
open Go.ChangeShapes Go.WideShapes Go.ChangeAt Go.RowKit Go.Port
set_option maxRecDepth 100000 in
set_option maxHeartbeats 4000000 in
theorem lifted (os : Os) (started : os.Started) (H : Type) (enc : TypeId × Value → H) :
    ReturnsInHanded {} Tryz.checked os 10 .any (Rows.bestNoneSpec.pre6 enc Tryz.prog Tryz.f10 Rows.bestNoneRow.domain false) (Rows.bestNoneSpec.post enc Tryz.prog Tryz.f10 false true false false) := by
  refine returnsInHanded_of_change (C := Tryz.checked) Tryz.own started (by kernel_rfl) Tryz.func10
    (ChangeSpec.witness6 (enc := enc) (C := Tryz.checked) false ⟨#[], #[.agg #[.slice none 0 0, .slice none 0 0, .int .i64 0, .int .i64 0, .slice none 0 0, .slice none 0 0, .slice none 0 0, .slice none 0 0], .int .i64 0, .bool false], []⟩ 8 (by kernel_rfl) (by kernel_rfl) (by kernel_rfl) (by kernel_rfl)) ?_
  intro W base args ds gs before hval0 hW hcnd _
  have hval : ∀ (j : Nat) t v, Tryz.f10.params[j]? = some t → args[j]? = some v → Value.okWide Tryz.prog W .any base t v := hval0
  have hW' := hW
  obtain ⟨p, q, hA0, hV, rfl, hfz, hnd⟩ := hW
  have hA : DataW.TrodAll enc Tryz.prog W 0 (fun _ => true) true Tryz.f10.params.toList args.toList ds p := hA0
  rw [Tryz.params10] at hA hval
  obtain ⟨v0, vs0, d0, ds0, p0, q0, hargs, rfl, rfl, h0, r0⟩ := trodAll_cons hA
  obtain ⟨v1, vs1, d1, ds1, p1, q1, rfl, rfl, rfl, h1, r1⟩ := trodAll_cons r0
  obtain ⟨v2, vs2, d2, ds2, p2, q2, rfl, rfl, rfl, h2, r2⟩ := trodAll_cons r1
  obtain ⟨rfl, rfl, rfl⟩ := trodAll_nil r2
  obtain rfl : args = #[v0, v1, v2] := by cases args; simp_all
  obtain ⟨rfl, rfl⟩ := trodVars_none hV
  obtain ⟨a0, c0, H0, e0, f0, D0, W0, G0, A0, cp0, C0, rfl, hS0⟩ := open_scene (hval 0 26 v0 rfl rfl) h0
  obtain ⟨a1, rfl, rfl, rfl, w1⟩ := open_int Tryz.underlying3 (hval 1 3 v1 rfl rfl) h1
  obtain ⟨a2, rfl, rfl, rfl⟩ := open_bool Tryz.underlying4 (hval 2 4 v2 rfl rfl) h2
  clear hA0 hval0
  simp only [List.append_nil] at hW'
  refine (BestNone_walk W a0 c0 H0 e0 f0 D0 W0 G0 A0 cp0 C0 hS0 a1 (bounds_i64 w1) a2).mono fun e W' ⟨he, hb⟩ => ?_
  subst he
  exact ⟨_, rfl, law_post Tryz.kids Tryz.full Tryz.underlying4 rfl rfl hW' (by rw [Tryz.params10]; decide) rfl rfl rfl hb⟩
theorem over : Rows.bestNoneRow.holds Tryz.pinned (OpenSpec.ofChange Rows.bestNoneSpec) :=
  OpenClaim.holds_of_wide 10 Tryz.f10 rfl rfl rfl rfl rfl rfl rfl ⟨rfl, rfl, rfl, rfl, rfl⟩ rfl rfl rfl rfl rfl (by kernel_rfl) Tryz.func10 (by kernel_rfl)
    (of_decide_eq_true (by kernel_rfl)) (by unfold Func.isWrapper; first | (rw [if_pos (by decide +kernel)]; kernel_rfl) | (rw [if_neg (by decide +kernel)]; exact ⟨rfl, rfl⟩))
    (fun os started H enc _ => lifted os started H enc)
/-- The statement. -/
theorem proved : Rows.BestNoneSaid :=
  over
end Go.Proofs.YtiagbejfghincaaGreat.LBestNone
