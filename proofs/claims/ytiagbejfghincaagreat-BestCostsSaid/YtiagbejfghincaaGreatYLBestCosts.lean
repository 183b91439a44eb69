/-
  The law BestCosts: for any such scene and any number of iterations, the iterator over the least costs yields those of the reference; it can be left early and used again. No condition.
-/
import Derived.Test.YtiagbejfghincaaGreatY42
import Derived.Test.YtiagbejfghincaaGreatY46
import Derived.Test.YtiagbejfghincaaGreatY47
import Derived.OwnWalkIn
import Derived.TacticsInMore
namespace Go.Proofs.YtiagbejfghincaaGreat
open Go.RowKit Go.Port
attribute [local go_sem] Oper.semAt_some
theorem fn_nilI (f : Nat) (lb : Array Value) (w : World) : (binOp .eql 61 (.func (.func f) #[] lb) .nilFunc).run Tryz.prog w = .ok (.bool false) w := by kernel_rfl
/-- What lies while the turns are run. -/
structure CostM (w W : World) (many : Int) (ml : List Int) (wb gw qe qt Tb gc gf n : Nat) : Prop where
  m : Blk W (w.heap.size + 1) [.int .i64 many] 3
  r : Blk W (w.heap.size + 2) [.bool false] 4
  below : Below w.heap.size w W
  want : Blk W wb [.slice (some ⟨gw, 0, none⟩) ml.length ml.length] 23
  wrow : Blk W gw (ml.map iv) 3
  e : Blk W qe [.int .i64 0] 46
  t : Blk W qt [.pointer (some ⟨Tb, 0, none⟩)] 94
  row : Blk W Tb [.slice (some ⟨gc, 0, none⟩) ml.length ml.length, .slice (some ⟨gf, 0, none⟩) n n] 101
  c : Blk W gc (ml.map iv) 3
theorem CostM.low {w W W' : World} {many : Int} {ml : List Int} {wb gw qe qt Tb gc gf n : Nat} (h : CostM w W many ml wb gw qe qt Tb gc gf n) (hb : Below W.heap.size W W') : CostM w W' many ml wb gw qe qt Tb gc gf n :=
  ⟨h.m.below hb h.m.lt, h.r.below hb h.r.lt, h.below.trans (hb.mono h.below.size), h.want.below hb h.want.lt, h.wrow.below hb h.wrow.lt, h.e.below hb h.e.lt, h.t.below hb h.t.lt, h.row.below hb h.row.lt, h.c.below hb h.c.lt⟩
set_option maxRecDepth 1000000 in
set_option maxHeartbeats 16000000 in
theorem BestCosts_walk (w : World) (a1 : Option Addr) (c1 : Nat) (H : List UInt8) (a2 : Option Addr) (c2 : Nat) (Dt : List UInt8) (Wd D : Int) (Ar : Nat → Option Addr) (cp : Nat → Nat) (C : Nat → List Int) (hs : SceneAt w a1 c1 H a2 c2 Dt Ar cp C) (many : Int) (_ : -9223372036854775808 ≤ many ∧ many ≤ 9223372036854775807) :
    Calls Tryz.prog 7 #[sceneV a1 H.length c1 a2 Dt.length c2 Wd D Ar cp C, .int .i64 many] w (RetV w (.bool true)) := by
  have HW := hid works33_any
  have hX := (((Blk.newAt rfl : Blk (w.alloc (.cells #[.slice a1 H.length c1, .slice a2 Dt.length c2, .int .i64 Wd, .int .i64 D, .slice (Ar 0) (C 0).length (cp 0), .slice (Ar 1) (C 1).length (cp 1), .slice (Ar 2) (C 2).length (cp 2), .slice (Ar 3) (C 3).length (cp 3)] 26)) w.heap.size [.slice a1 H.length c1, .slice a2 Dt.length c2, .int .i64 Wd, .int .i64 D, .slice (Ar 0) (C 0).length (cp 0), .slice (Ar 1) (C 1).length (cp 1), .slice (Ar 2) (C 2).length (cp 2), .slice (Ar 3) (C 3).length (cp 3)] 26).alloc (.cells #[.int .i64 many] 3)).alloc (.cells #[.bool false] 4))
  have hMm := ((Blk.newAt (by simp) : Blk ((w.alloc (.cells #[.slice a1 H.length c1, .slice a2 Dt.length c2, .int .i64 Wd, .int .i64 D, .slice (Ar 0) (C 0).length (cp 0), .slice (Ar 1) (C 1).length (cp 1), .slice (Ar 2) (C 2).length (cp 2), .slice (Ar 3) (C 3).length (cp 3)] 26)).alloc (.cells #[.int .i64 many] 3)) (w.heap.size + 1) [.int .i64 many] 3).alloc (.cells #[.bool false] 4))
  have hRr := (Blk.newAt (by simp) : Blk (((w.alloc (.cells #[.slice a1 H.length c1, .slice a2 Dt.length c2, .int .i64 Wd, .int .i64 D, .slice (Ar 0) (C 0).length (cp 0), .slice (Ar 1) (C 1).length (cp 1), .slice (Ar 2) (C 2).length (cp 2), .slice (Ar 3) (C 3).length (cp 3)] 26)).alloc (.cells #[.int .i64 many] 3)).alloc (.cells #[.bool false] 4)) (w.heap.size + 2) [.bool false] 4)
  have hb0 : Below w.heap.size w (((w.alloc (.cells #[.slice a1 H.length c1, .slice a2 Dt.length c2, .int .i64 Wd, .int .i64 D, .slice (Ar 0) (C 0).length (cp 0), .slice (Ar 1) (C 1).length (cp 1), .slice (Ar 2) (C 2).length (cp 2), .slice (Ar 3) (C 3).length (cp 3)] 26)).alloc (.cells #[.int .i64 many] 3)).alloc (.cells #[.bool false] 4)) := ((below_new w _).alloc (by simp) _).alloc (by simp; omega) _
  have HM := hid (made33_any a1 a2 c1 c2 H Dt Wd D Ar cp C (((w.alloc (.cells #[.slice a1 H.length c1, .slice a2 Dt.length c2, .int .i64 Wd, .int .i64 D, .slice (Ar 0) (C 0).length (cp 0), .slice (Ar 1) (C 1).length (cp 1), .slice (Ar 2) (C 2).length (cp 2), .slice (Ar 3) (C 3).length (cp 3)] 26)).alloc (.cells #[.int .i64 many] 3)).alloc (.cells #[.bool false] 4)) (hs.low hb0))
  have HS0 := hid (hs.low hb0)
  have HX0 := hid hX
  have HMm0 := hid hMm
  have HRr0 := hid hRr
  have HB0 := hid hb0
  have x0 := hX.cell (k := 0) rfl
  have x1 := hX.cell (k := 1) rfl
  have x2 := hX.cell (k := 2) rfl
  have x3 := hX.cell (k := 3) rfl
  have x4 := hX.cell (k := 4) rfl
  have x5 := hX.cell (k := 5) rfl
  have x6 := hX.cell (k := 6) rfl
  have x7 := hX.cell (k := 7) rfl
  generalize hbs : H ++ Dt = bs at HM
  unfold sceneV at HM ⊢
  clear hs hX hb0 hMm hRr
  refine (callsIn_wide (n := 1)).1 ?_
  refine callsIn_of_wp_marks Tryz.func7 rfl trivial ?_ rfl
  simp only [Tryz.ntmps7, List.size_toArray, List.length_cons, List.length_nil, Nat.reduceAdd, Nat.reduceSub, Array.replicate_succ, Array.replicate_zero, List.push_toArray, List.append_toArray, List.nil_append, List.cons_append]
  refine wpIn_wide.2 ?_
  go_wp2_with fail
  clear x0 x1 x2 x3 x4 x5 x6 x7
  generalize (((w.alloc (.cells #[.slice a1 H.length c1, .slice a2 Dt.length c2, .int .i64 Wd, .int .i64 D, .slice (Ar 0) (C 0).length (cp 0), .slice (Ar 1) (C 1).length (cp 1), .slice (Ar 2) (C 2).length (cp 2), .slice (Ar 3) (C 3).length (cp 3)] 26)).alloc (.cells #[.int .i64 many] 3)).alloc (.cells #[.bool false] 4)) = w0 at *
  refine HM.out.mono ?_
  rintro e w1 (⟨rfl, hb1⟩ | ⟨hok, F, M, ar, cr, rfl, hF, hM, hC, hcr, hb1⟩)
  · have hb2 := hb1.alloc hb1.size (.cells #[.pointer none, .pointer none, .slice none 0 0, .int .i64 0, .int .i64 0, .int .i64 0, .slice none 0 0, .slice none 0 0, .slice none 0 0, .slice none 0 0] 34)
    have HB1 := hid (HB0.out.trans (hb2.mono HB0.out.size))
    have HR1 := hid (HRr0.out.below hb2 HRr0.out.lt)
    clear hb1 hb2 HM hbs HS0 HX0 HMm0 HRr0
    go_wp2_with fail
    refine (HW.out _).mono ?_
    rintro e w5 ⟨rfl, hb5⟩
    have HR5 := hid (HR1.out.below hb5 HR1.out.lt)
    have HB5 := hid (HB1.out.trans (hb5.mono HB1.out.size))
    have hr5 := HR5.out.cell (k := 0) rfl
    have hz5 := HR5.out.frozen 0
    have hr6 := (HR5.out.set 0 (.bool true)).cell (k := 0) rfl
    clear hb5
    go_wp2
    exact ⟨.bool true, by simp [results, Tryz.results7, go_sem, hr6], rfl, HB5.out.setCell (p := ⟨w.heap.size + 2, 0, none⟩) (by simp) _⟩
  obtain ⟨g1, g2, g3, g4, g5⟩ := hok
  have hdr : bs.drop H.length = Dt := by rw [← hbs, List.drop_left]
  have hbl : bs.length ≤ 200 := by rw [← hbs, List.length_append]; omega
  have hbn := below_new w1 (.cells #[.pointer (some ⟨F, 0, none⟩), .pointer (some ⟨M, 0, none⟩), .slice ar bs.length cr, .int .i64 (H.length : Int), .int .i64 Wd, .int .i64 D, .slice (Ar 0) (C 0).length (cp 0), .slice (Ar 1) (C 1).length (cp 1), .slice (Ar 2) (C 2).length (cp 2), .slice (Ar 3) (C 3).length (cp 3)] 34)
  have hb2 := hb1.trans (hbn.mono hb1.size)
  have HE2 := hid (BestAt.low (⟨hF, hM, hC, ⟨HS0.out.hf.low hb1, g5⟩, hcr, hbl⟩ : BestAt w1 bs H.length Wd D F M ar cr Ar cp C) hbn)
  have HV2 := hid (Blk.new w1 [.pointer (some ⟨F, 0, none⟩), .pointer (some ⟨M, 0, none⟩), .slice ar bs.length cr, .int .i64 (H.length : Int), .int .i64 Wd, .int .i64 D, .slice (Ar 0) (C 0).length (cp 0), .slice (Ar 1) (C 1).length (cp 1), .slice (Ar 2) (C 2).length (cp 2), .slice (Ar 3) (C 3).length (cp 3)] 34)
  have HMm2 := hid (HMm0.out.below hb2 HMm0.out.lt)
  have HRr2 := hid (HRr0.out.below hb2 HRr0.out.lt)
  have HB2 := hid (HB0.out.trans (hb2.mono HB0.out.size))
  have HN := hid (show (bs.drop H.length).length = Dt.length from by rw [hdr])
  have hd100 : Dt.length ≤ 100 := g2
  clear g1 g2 g3 g4 g5 hdr hbl hbn hb2 hb1 hF hM hC hcr HM HS0 HX0 HB0 HMm0 HRr0 hbs
  go_upto_region 4 with fail
  generalize w1.alloc (.cells #[.pointer (some ⟨F, 0, none⟩), .pointer (some ⟨M, 0, none⟩), .slice ar bs.length cr, .int .i64 (H.length : Int), .int .i64 Wd, .int .i64 D, .slice (Ar 0) (C 0).length (cp 0), .slice (Ar 1) (C 1).length (cp 1), .slice (Ar 2) (C 2).length (cp 2), .slice (Ar 3) (C 3).length (cp 3)] 34) = w2 at *
  generalize w1.heap.size = Q at *
  have b0 := HV2.out.cell (k := 0) rfl
  have b1 := HV2.out.cell (k := 1) rfl
  have b2 := HV2.out.cell (k := 2) rfl
  have b3 := HV2.out.cell (k := 3) rfl
  have b4 := HV2.out.cell (k := 4) rfl
  have b5 := HV2.out.cell (k := 5) rfl
  have b6 := HV2.out.cell (k := 6) rfl
  have b7 := HV2.out.cell (k := 7) rfl
  have b8 := HV2.out.cell (k := 8) rfl
  have b9 := HV2.out.cell (k := 9) rfl
  have hcl : (costsL (tabF C bs H.length Wd D)).length = Dt.length + 1 := by rw [costsL_length, tabF_length, HN.out]
  have HCl := hid hcl
  clear hcl
  go_wp2_with fail
  have hco := HE2.out.costs
  rw [HN.out, ← HCl.out] at hco
  refine hco.mono ?_
  rintro e w3 ⟨gw, rfl, _, hG, hb3⟩
  clear hco
  clear b0 b1 b2 b3 b4 b5 b6 b7 b8 b9
  have hbn := below_new w3 (.cells #[.slice (some ⟨gw, 0, none⟩) (costsL (tabF C bs H.length Wd D)).length (costsL (tabF C bs H.length Wd D)).length] 23)
  have hb4 := hb3.trans (hbn.mono hb3.size)
  have HE4 := hid (HE2.out.low hb4)
  have HV4 := hid (HV2.out.below hb4 HV2.out.lt)
  have HMm4 := hid (HMm2.out.below hb4 HMm2.out.lt)
  have HRr4 := hid (HRr2.out.below hb4 HRr2.out.lt)
  have HB4 := hid (HB2.out.trans (hb4.mono HB2.out.size))
  clear HE2 HV2 HMm2 HRr2 HB2
  have HW4 := hid (Blk.new w3 [.slice (some ⟨gw, 0, none⟩) (costsL (tabF C bs H.length Wd D)).length (costsL (tabF C bs H.length Wd D)).length] 23)
  have HWr4 := hid (hG.below hbn hG.lt)
  clear hb4 hbn hb3 hG
  go_upto_region 5 with fail
  generalize w3.alloc (.cells #[.slice (some ⟨gw, 0, none⟩) (costsL (tabF C bs H.length Wd D)).length (costsL (tabF C bs H.length Wd D)).length] 23) = w4 at *
  generalize w3.heap.size = wb at *
  have b0 := HV4.out.cell (k := 0) rfl
  have b1 := HV4.out.cell (k := 1) rfl
  have b2 := HV4.out.cell (k := 2) rfl
  have b3 := HV4.out.cell (k := 3) rfl
  have b4 := HV4.out.cell (k := 4) rfl
  have b5 := HV4.out.cell (k := 5) rfl
  have b6 := HV4.out.cell (k := 6) rfl
  have b7 := HV4.out.cell (k := 7) rfl
  have b8 := HV4.out.cell (k := 8) rfl
  have b9 := HV4.out.cell (k := 9) rfl
  go_wp2_with fail
  refine (bcosts_ok bs H.length Wd D F M C w4 HE4.out.fd HE4.out.pr HE4.out.ch).mono ?_
  rintro e w5 ⟨qe, qt, Tb, gc, gf, rfl, hb5, _, _, _, _, he, ht, hR⟩
  clear b0 b1 b2 b3 b4 b5 b6 b7 b8 b9
  have HE5 := hid (HE4.out.low hb5)
  have HV5 := hid (HV4.out.below hb5 HV4.out.lt)
  have HMm5 := hid (HMm4.out.below hb5 HMm4.out.lt)
  have HRr5 := hid (HRr4.out.below hb5 HRr4.out.lt)
  have HB5 := hid (HB4.out.trans (hb5.mono HB4.out.size))
  clear HE4 HV4 HMm4 HRr4 HB4
  have HS5 := hid (show CostM w w5 many (costsL (tabF C bs H.length Wd D)) wb gw qe qt Tb gc gf (tabF C bs H.length Wd D).length from ⟨HMm5.out, HRr5.out, HB5.out, HW4.out.below hb5 HW4.out.lt, HWr4.out.below hb5 HWr4.out.lt, he, ht, by have h := hR.row; rwa [← costsL_length] at h, hR.c⟩)
  have hml : (costsL (tabF C bs H.length Wd D)).length ≤ 101 := by rw [HCl.out]; omega
  have hfn := fun W => fn_nilI 43 #[.pointer (some ⟨qe, 0, none⟩), .pointer (some ⟨qt, 0, none⟩)] W
  clear he ht hR hb5 HW4 HWr4 HE5 HV5 HMm5 HRr5 HB5 HCl
  generalize (tabF C bs H.length Wd D).length = tn at *
  generalize (costsL (tabF C bs H.length Wd D)) = ml at *
  go_wp2_with fail
  clear hfn
  have HPt := hid (HS5.out.low (below_new w5 (.cells #[.int .i64 0] 3)))
  have HTt := hid (Blk.new w5 [.int .i64 0] 3)
  clear HS5
  generalize w5.heap.size = T at *
  generalize w5.alloc (.cells #[.int .i64 0] 3) = wt at *
  refine wp_loop_rounds 3 ?_
  rw [rounds_succ]
  have hTc := HTt.out.cell (k := 0) rfl
  go_wp2_with fail
  clear hTc
  refine (wpIn_wide (n := 1)).1 ?_
  have hbW : Below wt.heap.size wt (wt.alloc (.cells #[.int .i64 0] 3)) := below_new wt _
  have hsz : (wt.alloc (.cells #[.int .i64 0] 3)).heap.size = wt.heap.size + 1 := by simp
  obtain ⟨⟩ : True := trivial
  apply wpIn_rangeStA (gf := 43) (lb := #[.pointer (some ⟨qe, 0, none⟩), .pointer (some ⟨qt, 0, none⟩)]) rfl (enters_of Tryz.func43 (by kernel_rfl) rfl) (encs := fun x : Int × Int => #[.int .i64 x.1, .int .i64 x.2])
    (bcosts1_seq (fun k => k < wt.heap.size) (fun _ => false) qe qt Tb gc ml.length ml (wt.alloc (.cells #[.int .i64 0] 3)) (by omega) HPt.out.e.lt HPt.out.t.lt HPt.out.row.lt HPt.out.c.lt ((HPt.out.low hbW).e.cell (k := 0) rfl) ((HPt.out.low hbW).t.cell (k := 0) rfl) ((HPt.out.low hbW).row.cell (k := 0) rfl) (fun j u hu => (HPt.out.low hbW).c.cell hu)) (fun _ => rfl)
    (ITc wt 3 many true) (IXc wt 3 many true 2) (ITc.stays wt _ many true (by omega)) (fun c => IXc.stays wt _ many true 2 c (by omega)) (ITc.start wt _ many true)
    2 (FTc wt 3 many true (enumI ml).length) ITc.fin IXc.fin (fun _ _ h => h)
  case hassign =>
    intro l' x W K hK
    gi_wp2
    exact hK
  case hbody =>
    rintro l' pre ⟨x1, xc⟩ W hI hSp
    obtain ⟨hn0, hn2⟩ := next_of_pre hSp
    obtain ⟨hx1, hn1⟩ := enumI_get hn0
    rw [enumI_length] at hn2
    dsimp only at hn1 hx1
    subst hx1
    have hS := HPt.out.low hI.low
    have hcn := hI.n.cell (k := 0) rfl
    have hzn := hI.n.frozen 0
    have hcw := hS.want.cell (k := 0) rfl
    have hmc := hS.m.cell (k := 0) rfl
    have hw0 := hS.wrow.cell (k := pre.length) (u := .int .i64 xc) (by rw [List.getElem?_map, hn1]; rfl)
    have HR := hid (hI.round (((pre.length : Int)), xc) (fun _ => false) 0 (.int .i64 ((pre.length : Int) + 1)) rfl)
    have HI := hid hI
    have hn2a : (pre.length : Int) < (ml.length : Int) := by omega
    have hTlt := HTt.out.lt
    have hTcW := (hI.low.cell (p := ⟨T, 0, none⟩) hTlt).trans (HTt.out.cell (k := 0) rfl)
    have hwlt : w.heap.size + 1 < wt.heap.size := HPt.out.m.lt
    have hwl2 := HPt.out.want.lt
    clear hI hS hSp hn1 hn0
    have hdec : ¬ ((ml.length : Int) ≤ (pre.length : Int)) := by omega
    have hdec2 : decide (ml.length ≤ pre.length) = false := by rw [decide_eq_false_iff_not]; omega
    have hne1 : ¬ wt.heap.size = T := by omega
    have hne3 : ¬ wt.heap.size = w.heap.size + 1 := by omega
    have hne4 : ¬ wt.heap.size = wb := by omega
    by_cases hmany : many ≤ (pre.length : Int) + 1
    · gi_wp2
      exact ⟨by first | exact HR.out.1 | (rw [hsz]; exact HR.out.1), ITc.exit HR.out.2.1 HR.out.2.2 (HI.out.go rfl) hmany⟩
    · gi_wp2
      exact ⟨by first | exact HR.out.1 | (rw [hsz]; exact HR.out.1), ITc.next HR.out.2.1 HR.out.2.2 (by omega)⟩
  case hrest =>
    rintro D1 xs W hD hF hK
    have hf := hF.one rfl
    rw [enumI_length] at hf
    have hS := HPt.out.low hF.low
    have hTlt := HTt.out.lt
    have hTcW := (hF.low.cell (p := ⟨T, 0, none⟩) hTlt).trans (HTt.out.cell (k := 0) rfl)
    have hcn := hF.n.cell (k := 0) rfl
    have hcw := hS.want.cell (k := 0) rfl
    have hmc := hS.m.cell (k := 0) rfl
    have HP1t := hid (hS.low (below_new W (.cells #[.int .i64 1] 3)))
    have HT1t := hid (Blk.new W [.int .i64 1] 3)
    have HK1 := hid (at_low' (below_new W (.cells #[.int .i64 1] 3)) hK)
    have hDlow : w.heap.size + 3 < D1 := by have := HPt.out.r.lt; omega
    have HDlow := hid hDlow
    have hTn : (T : Nat) < W.heap.size := Nat.lt_of_lt_of_le hTlt hF.low.size
    clear hS hF hK hD hbW hsz hDlow
    generalize hxl : (xs.length : Int) = m at *
    clear hxl
    go_wp2_with fail
    clear hcn hcw hmc hf hTcW hTlt
    generalize W.heap.size = U at *
    generalize W.alloc (.cells #[.int .i64 1] 3) = wu at *
    rw [rounds_succ]
    have hTc := HT1t.out.cell (k := 0) rfl
    go_wp2_with fail
    clear hTc
    refine (wpIn_wide (n := 1)).1 ?_
    have hbW : Below wu.heap.size wu (wu.alloc (.cells #[.int .i64 0] 3)) := below_new wu _
    have hsz : (wu.alloc (.cells #[.int .i64 0] 3)).heap.size = wu.heap.size + 1 := by simp
    obtain ⟨⟩ : True := trivial
    apply wpIn_rangeStA (gf := 43) (lb := #[.pointer (some ⟨qe, 0, none⟩), .pointer (some ⟨qt, 0, none⟩)]) rfl (enters_of Tryz.func43 (by kernel_rfl) rfl) (encs := fun x : Int × Int => #[.int .i64 x.1, .int .i64 x.2])
      (bcosts1_seq (fun k => k < wu.heap.size) (fun _ => false) qe qt Tb gc ml.length ml (wu.alloc (.cells #[.int .i64 0] 3)) (by omega) HP1t.out.e.lt HP1t.out.t.lt HP1t.out.row.lt HP1t.out.c.lt ((HP1t.out.low hbW).e.cell (k := 0) rfl) ((HP1t.out.low hbW).t.cell (k := 0) rfl) ((HP1t.out.low hbW).row.cell (k := 0) rfl) (fun j u hu => (HP1t.out.low hbW).c.cell hu)) (fun _ => rfl)
      (ITc wu 3 many false) (IXc wu 3 many false 2) (ITc.stays wu _ many false (by omega)) (fun c => IXc.stays wu _ many false 2 c (by omega)) (ITc.start wu _ many false)
      2 (FTc wu 3 many false (enumI ml).length) ITc.fin IXc.fin (fun _ _ h => h)
    case hassign =>
      intro l' x W K hK
      gi_wp2
      exact hK
    case hbody =>
      rintro l' pre ⟨x1, xc⟩ W hI hSp
      obtain ⟨hn0, hn2⟩ := next_of_pre hSp
      obtain ⟨hx1, hn1⟩ := enumI_get hn0
      rw [enumI_length] at hn2
      dsimp only at hn1 hx1
      subst hx1
      have hS := HP1t.out.low hI.low
      have hcn := hI.n.cell (k := 0) rfl
      have hzn := hI.n.frozen 0
      have hcw := hS.want.cell (k := 0) rfl
      have hmc := hS.m.cell (k := 0) rfl
      have hw0 := hS.wrow.cell (k := pre.length) (u := .int .i64 xc) (by rw [List.getElem?_map, hn1]; rfl)
      have HR := hid (hI.round (((pre.length : Int)), xc) (fun _ => false) 0 (.int .i64 ((pre.length : Int) + 1)) rfl)
      have HI := hid hI
      have hn2a : (pre.length : Int) < (ml.length : Int) := by omega
      have hTlt := HT1t.out.lt
      have hTcW := (hI.low.cell (p := ⟨U, 0, none⟩) hTlt).trans (HT1t.out.cell (k := 0) rfl)
      have hwlt : w.heap.size + 1 < wu.heap.size := HP1t.out.m.lt
      have hwl2 := HP1t.out.want.lt
      clear hI hS hSp hn1 hn0
      have hdec : ¬ ((ml.length : Int) ≤ (pre.length : Int)) := by omega
      have hdec2 : decide (ml.length ≤ pre.length) = false := by rw [decide_eq_false_iff_not]; omega
      have hne1 : ¬ wu.heap.size = U := by omega
      have hne3 : ¬ wu.heap.size = w.heap.size + 1 := by omega
      have hne4 : ¬ wu.heap.size = wb := by omega
      gi_wp2
      exact ⟨by first | exact HR.out.1 | (rw [hsz]; exact HR.out.1), ITc.late HR.out.2.1 HR.out.2.2⟩
    case hrest =>
      rintro D2 xs W hD hF hK
      have hf := hF.two rfl
      rw [enumI_length] at hf
      have hS := HP1t.out.low hF.low
      have hTlt := HT1t.out.lt
      have hTcW := (hF.low.cell (p := ⟨U, 0, none⟩) hTlt).trans (HT1t.out.cell (k := 0) rfl)
      have hcn := hF.n.cell (k := 0) rfl
      have hcw := hS.want.cell (k := 0) rfl
      have hmc := hS.m.cell (k := 0) rfl
      have HP2 := hid (hS.low (below_new W (.cells #[.int .i64 2] 3)))
      have HT2 := hid (Blk.new W [.int .i64 2] 3)
      have HK2 := hid (at_low' (below_new W (.cells #[.int .i64 2] 3)) hK)
      have HK1b := hid (at_low' (below_new W (.cells #[.int .i64 2] 3)) (at_low' hF.low HK1.out))
      have hDD : D1 < D2 := Nat.lt_of_lt_of_le (Array.getElem?_eq_some_iff.1 HK1.out).1 (by omega)
      have hfi : (xs.length : Int) = (ml.length : Int) := by omega
      have hD1 := HDlow.out
      clear hS hF hK hbW hsz hf
      generalize hxl : (xs.length : Int) = m at *
      clear hxl hD
      go_wp2_with fail
      clear hcn hcw hmc hfi hTcW hTlt
      generalize W.heap.size = V at *
      generalize W.alloc (.cells #[.int .i64 2] 3) = wv at *
      rw [rounds_succ]
      have hTc := HT2.out.cell (k := 0) rfl
      go_wp2_with fail
      refine (HW.out _).mono ?_
      rintro e w40 ⟨rfl, hb40⟩
      have hst40 := HP2.out.low hb40
      have hr40 := hst40.r.cell (k := 0) rfl
      have hz40 := hst40.r.frozen 0
      have HK2f := hid (at_low' hb40 HK2.out)
      have HK1f := hid (at_low' hb40 HK1b.out)
      have HS40 := hid hst40
      clear hb40 hst40 hTc
      go_wp2
      have hrs := HS40.out.r.set 0 (.bool true)
      have hbs := HS40.out.below.setCell (p := ⟨w.heap.size + 2, 0, none⟩) (by simp) (.bool true)
      have hK2 : (w40.setCell ⟨w.heap.size + 2, 0, none⟩ (.bool true)).heap[D2]? = some (.deferred (some [])) := (Below.heap_setCell _ _ _ _ (by dsimp only; omega)).trans HK2f.out
      have hK1 : (w40.setCell ⟨w.heap.size + 2, 0, none⟩ (.bool true)).heap[D1]? = some (.deferred (some [])) := (Below.heap_setCell _ _ _ _ (by dsimp only; omega)).trans HK1f.out
      clear HS40 HK2f HK1f hr40 hz40
      generalize w40.setCell ⟨w.heap.size + 2, 0, none⟩ (.bool true) = W9 at *
      refine ⟨by simp, .inl ⟨_, _, rfl, run_takeDeferred hK2, ?_⟩⟩
      have hK1b := fun o => (World.putObj_heap_other (w := W9) (r := D2) (o := o) (k := D1) (by omega)).trans hK1
      refine ⟨by simp, .inl ⟨_, _, rfl, run_takeDeferred (hK1b _), ?_⟩⟩
      have k1 : ∀ o o', Blk ((W9.putObj D2 o).putObj D1 o') (w.heap.size + 2) [.bool true] 4 := fun o o' => (World.putObj_heap_other (by omega)).trans ((World.putObj_heap_other (by omega)).trans hrs)
      have q1 := fun o o' => (k1 o o').cell (k := 0) rfl
      have hsz9 := hbs.size
      have hb9 := fun o => hbs.grown (grownBy_putObj' W9 D2 o) hsz9 (fun k hk => by cases hk; omega)
      refine ⟨.bool true, by simp [results, Tryz.results7, go_sem, q1], rfl, (hb9 _).grown (grownBy_putObj' _ _ _) (hb9 _).size (fun k hk => by cases hk; omega)⟩
end Go.Proofs.YtiagbejfghincaaGreat
namespace Go.Proofs.YtiagbejfghincaaGreat.LBestCosts
open Go.ChangeShapes Go.WideShapes Go.ChangeAt Go.RowKit Go.Port
set_option maxRecDepth 100000 in
set_option maxHeartbeats 4000000 in
theorem lifted (os : Os) (started : os.Started) (H : Type) (enc : TypeId × Value → H) :
    ReturnsInHanded {} Tryz.checked os 7 .any (Rows.bestCostsSpec.pre6 enc Tryz.prog Tryz.f7 Rows.bestCostsRow.domain false) (Rows.bestCostsSpec.post enc Tryz.prog Tryz.f7 false true false false) := by
  refine returnsInHanded_of_change (C := Tryz.checked) Tryz.own started (by kernel_rfl) Tryz.func7
    (ChangeSpec.witness6 (enc := enc) (C := Tryz.checked) false ⟨#[], #[.agg #[.slice none 0 0, .slice none 0 0, .int .i64 0, .int .i64 0, .slice none 0 0, .slice none 0 0, .slice none 0 0, .slice none 0 0], .int .i64 0], []⟩ 8 (by kernel_rfl) (by kernel_rfl) (by kernel_rfl) (by kernel_rfl)) ?_
  intro W base args ds gs before hval0 hW hcnd _
  have hval : ∀ (j : Nat) t v, Tryz.f7.params[j]? = some t → args[j]? = some v → Value.okWide Tryz.prog W .any base t v := hval0
  have hW' := hW
  obtain ⟨p, q, hA0, hV, rfl, hfz, hnd⟩ := hW
  have hA : DataW.TrodAll enc Tryz.prog W 0 (fun _ => true) true Tryz.f7.params.toList args.toList ds p := hA0
  rw [Tryz.params7] at hA hval
  obtain ⟨v0, vs0, d0, ds0, p0, q0, hargs, rfl, rfl, h0, r0⟩ := trodAll_cons hA
  obtain ⟨v1, vs1, d1, ds1, p1, q1, rfl, rfl, rfl, h1, r1⟩ := trodAll_cons r0
  obtain ⟨rfl, rfl, rfl⟩ := trodAll_nil r1
  obtain rfl : args = #[v0, v1] := by cases args; simp_all
  obtain ⟨rfl, rfl⟩ := trodVars_none hV
  obtain ⟨a0, c0, H0, e0, f0, D0, W0, G0, A0, cp0, C0, rfl, hS0⟩ := open_scene (hval 0 26 v0 rfl rfl) h0
  obtain ⟨a1, rfl, rfl, rfl, w1⟩ := open_int Tryz.underlying3 (hval 1 3 v1 rfl rfl) h1
  clear hA0 hval0
  simp only [List.append_nil] at hW'
  refine (BestCosts_walk W a0 c0 H0 e0 f0 D0 W0 G0 A0 cp0 C0 hS0 a1 (bounds_i64 w1)).mono fun e W' ⟨he, hb⟩ => ?_
  subst he
  exact ⟨_, rfl, law_post Tryz.kids Tryz.full Tryz.underlying4 rfl rfl hW' (by rw [Tryz.params7]; decide) rfl rfl rfl hb⟩
theorem over : Rows.bestCostsRow.holds Tryz.pinned (OpenSpec.ofChange Rows.bestCostsSpec) :=
  OpenClaim.holds_of_wide 7 Tryz.f7 rfl rfl rfl rfl rfl rfl rfl ⟨rfl, rfl, rfl, rfl, rfl⟩ rfl rfl rfl rfl rfl (by kernel_rfl) Tryz.func7 (by kernel_rfl)
    (of_decide_eq_true (by kernel_rfl)) (by unfold Func.isWrapper; first | (rw [if_pos (by decide +kernel)]; kernel_rfl) | (rw [if_neg (by decide +kernel)]; exact ⟨rfl, rfl⟩))
    (fun os started H enc _ => lifted os started H enc)
/-- The statement. -/
theorem proved : Rows.BestCostsSaid :=
  over
end Go.Proofs.YtiagbejfghincaaGreat.LBestCosts
