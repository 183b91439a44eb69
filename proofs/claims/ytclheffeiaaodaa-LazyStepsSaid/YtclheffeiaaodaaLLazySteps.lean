/-
  The law LazySteps: the iteration over sequences and match positions, early exit, a second use: for at most 150 bytes each of history and data, any lookahead, any number of rounds. No condition.
-/
import Derived.Test.YtclheffeiaaodaaLzL
import Derived.Test.YtclheffeiaaodaaLzV
import Derived.Test.YtclheffeiaaodaaLzRef
import Derived.Test.YtclheffeiaaodaaStepsGo
import Derived.Test.YtclheffeiaaodaaRMatches
import Derived.Deep.CutRange
import Derived.LoopN
import Derived.Shelf.RegionOpen
import Derived.Sort.QuietIn
namespace Go.Port
open Go.RowKit
theorem posOf_lazyL {bs : List UInt8} {A : Nat} {W D far : Int} (hA : A ≤ bs.length) : posOf 0 (seqs (lazyL bs A W D far)) = (lazyL bs A W D far).map fun x => x.1 := by
  unfold lazyL
  split
  · exact posOf_planS (lazy_ok (B := bs) (A := A) (W := W) (D := D) (far := far.toNat)) (lazy_in (B := bs) (A := A) (W := W) (D := D) (far := far.toNat)) _ 0 (by exact Int.self_le_toNat _) (by omega)
  · rfl
theorem ends_lazyL {bs : List UInt8} {A : Nat} {W D far : Int} (hA : A ≤ bs.length) (k : Nat) (hk : k ≤ (seqs (lazyL bs A W D far)).length) : 0 ≤ endOf 0 ((seqs (lazyL bs A W D far)).take k) ∧ endOf 0 ((seqs (lazyL bs A W D far)).take k) ≤ (bs.length : Int) - A := by
  unfold lazyL at hk ⊢
  split
  · rename_i h
    rw [if_pos h] at hk
    exact ends_planS (lazy_ok (B := bs) (A := A) (W := W) (D := D) (far := far.toNat)) (lazy_in (B := bs) (A := A) (W := W) (D := D) (far := far.toNat)) (by omega) k hk
  · simp [seqs, endOf]
    omega
theorem lazyL_pos {bs : List UInt8} {A : Nat} {W D far : Int} : ∀ s ∈ seqs (lazyL bs A W D far), 0 ≤ s.lit ∧ 0 ≤ s.len := by
  unfold lazyL
  split
  · exact ver_pos (lazy_ver bs A W D far.toNat)
  · intro s hs; cases hs
end Go.Port
namespace Go.Proofs.Ytclheffeiaaodaa
open Go.RowKit Go.Port

attribute [local go_sem] Oper.semAt_some

theorem fn_nil (f : Nat) (lb : Array Value) (w : World) : (binOp .eql 58 (.func (.func f) #[] lb) .nilFunc).run Try.prog w = .ok (.bool false) w := by kernel_rfl

set_option maxRecDepth 1000000 in
set_option maxHeartbeats 8000000 in
theorem LazySteps_walk (w : World) (v1 : Value) (A : List UInt8) (h1 : Rs w 1 v1 A.length (A.map bv)) (v2 : Value) (D : List UInt8) (h2 : Rs w 1 v2 D.length (D.map bv)) (W dep far many : Int) (hmb : -9223372036854775808 ≤ many ∧ many ≤ 9223372036854775807) :
    Calls Try.prog 8 #[v1, v2, .int .i64 W, .int .i64 dep, .int .i64 far, .int .i64 many] w (RetV w (.bool true)) := by
  have HW := hid works_any
  have hS0 : StM w ((w.alloc (.cells #[.int .i64 many] 3)).alloc (.cells #[.bool false] 4)) many 3 4 := by
    refine ⟨(Blk.new w [.int .i64 many] 3).alloc _, ?_, (below_new w _).alloc (by simp) _⟩
    have := Blk.new (w.alloc (.cells #[.int .i64 many] 3)) [.bool false] 4
    rwa [show (w.alloc (.cells #[.int .i64 many] 3)).heap.size = w.heap.size + 1 from by simp] at this
  have hbw : Below w.heap.size w ((w.alloc (.cells #[.int .i64 many] 3)).alloc (.cells #[.bool false] 4)) := (below_new w _).alloc (by simp) _
  have HM := hid (made_any v1 v2 A D W dep _ (h1.below hbw) (h2.below hbw))
  have HS0 := hid hS0
  clear hS0 hbw h1 h2
  generalize hbs : A ++ D = bs at *
  refine (callsIn_wide (n := 1)).1 ?_
  refine callsIn_of_wp_marks Try.func8 rfl trivial ?_ rfl
  simp only [Try.ntmps8, List.size_toArray, List.length_cons, List.length_nil, Nat.reduceAdd, Nat.reduceSub, Array.replicate_succ, Array.replicate_zero, List.push_toArray, List.append_toArray, List.nil_append, List.cons_append]
  refine wpIn_wide.2 ?_
  go_wp2_with fail
  refine HM.out.mono ?_
  rintro e w1 (⟨rfl, hb⟩ | ⟨hm, F, a, c, rfl, hF, hC, hac, hb⟩)
  · have HB := hid (hb.alloc hb.size (.cells #[.slice none 0 0, .int .i64 0, .int .i64 0, .int .i64 0] 25))
    have HSb := hid ((HS0.out.low hb).low (below_new w1 (.cells #[.slice none 0 0, .int .i64 0, .int .i64 0, .int .i64 0] 25)))
    unfold fdv
    clear hb HM hbs
    go_wp2_with fail
    refine (HW.out _).mono ?_
    rintro e w5 ⟨rfl, hb5⟩
    have HS5 := hid (HSb.out.low hb5)
    have hr5 := HS5.out.b1.cell (k := 0) rfl
    have hz5 := HS5.out.b1.frozen 0
    clear hb5
    go_wp2
    exact ⟨.bool true, by simp [results, Try.results8, go_sem, hr5], rfl, HS5.out.below.setCell (Nat.le_succ _) _⟩
  · have hk := finderOk_bounds hm.hk
    have hA := hm.hA
    have hD := hm.hD
    have hlen : bs.length = A.length + D.length := by rw [← hbs, List.length_append]
    have HFx := hid (hF.low (below_new w1 (.cells (fdc a bs.length c A.length W dep).toArray 25)))
    have HS1 := hid ((HS0.out.low hb).low (below_new w1 (.cells (fdc a bs.length c A.length W dep).toArray 25)))
    have HX1 := hid (Blk.new w1 (fdc a bs.length c A.length W dep) 25)
    have HC1 := hid (hC.low (below_new w1 (.cells (fdc a bs.length c A.length W dep).toArray 25)))
    have HRf := hid (fun W' hc' => rlook_any bs a c A.length W dep far W' (by omega) hac (by omega) hk.1 hk.2 hc')
    have HSt := hid (fun W' hF' => lzst_any bs A.length W dep F far W' hF')
    have hL := lazyL_length bs A.length W dep far
    have hpos := posOf_lazyL (bs := bs) (A := A.length) (W := W) (D := dep) (far := far) (by omega)
    have hend := ends_lazyL (bs := bs) (A := A.length) (W := W) (D := dep) (far := far) (by omega)
    have hsp := fun s hs => @lazyL_pos bs A.length W dep far s hs
    have hE : ∃ E, lazyE far = E := ⟨_, rfl⟩
    obtain ⟨E, hE⟩ := hE
    rw [hE] at HRf
    clear hE
    generalize lazyL bs A.length W dep far = ml at *
    have hlm : ml.length ≤ 400 := by omega
    have hln : ml.length = (seqs ml).length := by unfold seqs; rw [List.length_map]
    have HMt := hid (fun a2 c2 W' hc2 => rmatches_any a2 c2 (seqs ml) W' (by omega) hc2 (fun s hs => by have := hsp s hs; omega) (fun k hk => by have := hend k hk; omega))
    rw [hpos, ← hln] at HMt
    rw [← hln] at HRf
    unfold fdc at HFx HX1 HC1 HS1
    unfold fdv at HRf ⊢
    clear hF hb hC HM hbs hm hk hA hD hlen hac hpos hend hsp hL HS0 hln
    have d0 := HX1.out.cell (k := 0) rfl
    have d1 := HX1.out.cell (k := 1) rfl
    have d2 := HX1.out.cell (k := 2) rfl
    have d3 := HX1.out.cell (k := 3) rfl
    go_wp2_with fail
    refine (HRf.out _ HC1.out).mono ?_
    rintro e w2 ⟨vw, rfl, hwo, hb2⟩
    obtain ⟨aw, cw, rfl⟩ := own_slice hwo
    have hbn := below_new w2 (.cells #[.slice aw ml.length cw] 29)
    have HS2 := hid ((HS1.out.low hb2).low hbn)
    have HF2 := hid ((HFx.out.low hb2).low hbn)
    have HL2 := hid (((Sl.of_owns hwo).cells' rfl).low hbn)
    have HWb := hid (Blk.new w2 [.slice aw ml.length cw] 29)
    have hz2 := hbn.size
    have HMt2 := hid (HMt.out aw cw _ HL2.out)
    clear hwo hb2 hbn HRf HS1 HFx HX1 HC1 HMt d0 d1 d2 d3
    have hwb := HWb.out.cell (k := 0) rfl
    go_wp2_with fail
    refine HMt2.out.mono ?_
    rintro e w3 ⟨vp, rfl, hpo, hb3⟩
    obtain ⟨ap, cp, rfl⟩ := own_slice hpo
    have hbn := below_new w3 (.cells #[.slice ap ml.length cp] 38)
    have HS3 := hid ((HS2.out.low hb3).low hbn)
    have HF3 := hid ((HF2.out.low hb3).low hbn)
    have HL3 := hid ((HL2.out.low hb3).low hbn)
    have HW3 := hid ((HWb.out.below hb3 HWb.out.lt).below hbn (Nat.lt_of_lt_of_le HWb.out.lt hb3.size))
    have HP3 := hid (((Sl.of_owns hpo).cells' rfl).low hbn)
    have HPb := hid (Blk.new w3 [.slice ap ml.length cp] 38)
    clear hpo hb3 hbn HS2 HF2 HL2 HWb HMt2 hwb
    go_wp2_with fail
    generalize hlb : w2.heap.size = lb at *
    generalize hpb : w3.heap.size = pb at *
    generalize w3.alloc (.cells #[.slice ap ml.length cp] 38) = w4 at *
    clear hlb hpb hz2
    refine (HSt.out _ HF3.out).mono ?_
    rintro e w5 ⟨g, a5, c5, rfl, hg5, hgb, hgc, hb5⟩
    have hfn := fun W => fn_nil 46 #[.pointer (some ⟨g, 0, none⟩)] W
    have HG := hid (show GoS w w5 many ml lb aw cw pb ap cp g a5 c5 3 4 29 38 71 from
      ⟨HS3.out.low hb5, HW3.out.below hb5 HW3.out.lt, HL3.out.low hb5, HPb.out.below hb5 HPb.out.lt, HP3.out.low hb5, hgb, hgc⟩)
    clear hgb hgc hb5 hg5 HS3 HF3 HL3 HW3 HP3 HPb HSt
    go_wp2_with fail
    clear hfn
    have HPt := hid (HG.out.low (below_new w5 (.cells #[.int .i64 0] 3)))
    have HTt := hid (Blk.new w5 [.int .i64 0] 3)
    clear HG
    generalize w5.heap.size = T at *
    generalize w5.alloc (.cells #[.int .i64 0] 3) = wt at *
    refine wp_loop_rounds 3 ?_
    rw [rounds_succ]
    have hTc := HTt.out.cell (k := 0) rfl
    go_wp2_with fail
    clear hTc
    refine (wpIn_wide (n := 1)).1 ?_
    have hbW : Below wt.heap.size wt (wt.alloc (.cells #[.int .i64 0] 3)) := below_new wt _
    have hsz : (wt.alloc (.cells #[.int .i64 0] 3)).heap.size = wt.heap.size + 1 := by simp
    obtain ⟨⟩ : True := trivial
    apply wpIn_rangeStB (gf := 46) (lb := #[.pointer (some ⟨g, 0, none⟩)]) rfl (enters_of Try.func46 (by kernel_rfl) rfl) (encs := encsP)
      (lzsteps1_seq (fun k => k < wt.heap.size) (fun _ => false) g a5 c5 ml (wt.alloc (.cells #[.int .i64 0] 3)) (by omega) HPt.out.box.lt ((HPt.out.low hbW).box.cell (k := 0) rfl) (fun j u hu => by
        obtain ⟨b, off, e, hb, hc⟩ := HPt.out.row j u hu
        exact ⟨b, off, e, hb, (hbW.cell (p := ⟨b, off + j, none⟩) hb).trans hc⟩)) (fun _ => rfl)
      (ITc wt 3 many true) (IXc wt 3 many true 2) (ITc.stays wt _ many true (by omega)) (fun c => IXc.stays wt _ many true 2 c (by omega)) (ITc.start wt _ many true)
      2 (FTc wt 3 many true ml.length) ITc.fin IXc.fin (fun _ _ h => h) (fun x => sqc x.2) 49
    case hassign =>
      intro l' pre x W K hI hSp hK
      unfold encsP sqv
      obtain ⟨q, hq⟩ : ∃ q, q = W.heap.size := ⟨_, rfl⟩
      have HK := hid (hK q hq)
      have HQ := hid hq
      clear hK hI hSp hq
      gi_wp2
      rw [← HQ.out]
      exact HK.out
    case hbody =>
      rintro l' pre ⟨x1, ⟨xl, xn, xo⟩⟩ q W hI hq hSp
      obtain ⟨hn1, hn2⟩ := next_of_pre hSp
      have hS := HPt.out.low hI.low
      have hcn := hI.n.cell (k := 0) rfl
      have hzn := hI.n.frozen 0
      have hcw := hS.want.cell (k := 0) rfl
      have hcp := hS.plc.cell (k := 0) rfl
      have q0 := hq.cell (k := 0) rfl
      have q1 := hq.cell (k := 1) rfl
      have q2 := hq.cell (k := 2) rfl
      dsimp only [sqc] at q0 q1 q2
      obtain ⟨bl, off, haw, hbl0, hw0⟩ := hS.wrow (pre.length * 3 + 0) (.int .i64 xl) (by rw [sqc_get (snd_get hn1) 0 (by omega)]; rfl)
      obtain ⟨bl1, off1, haw1, _, hw1⟩ := hS.wrow (pre.length * 3 + 1) (.int .i64 xn) (by rw [sqc_get (snd_get hn1) 1 (by omega)]; rfl)
      rw [haw] at haw1
      cases haw1
      obtain ⟨bl2, off2, haw2, _, hw2⟩ := hS.wrow (pre.length * 3 + 2) (.int .i64 xo) (by rw [sqc_get (snd_get hn1) 2 (by omega)]; rfl)
      rw [haw] at haw2
      cases haw2
      obtain ⟨bp, offp, hap, hbp0, hp0⟩ := hS.prow pre.length (.int .i64 x1) (fst_get hn1)
      rw [haw] at hcw
      rw [hap] at hcp
      rw [Nat.add_zero] at hw0
      rw [← Nat.add_assoc] at hw1 hw2
      have HI := hid hI
      have HS := hid hS
      have hn2a : (pre.length : Int) < (ml.length : Int) := by omega
      clear hI hS hSp hn1 haw hap hq
      have hdec : ¬ ((ml.length : Int) ≤ (pre.length : Int)) := by omega
      have hdec2 : decide (ml.length ≤ pre.length) = false := by rw [decide_eq_false_iff_not]; omega
      have hTlt := HTt.out.lt
      have hTcW := (HI.out.low.cell (p := ⟨T, 0, none⟩) hTlt).trans (HTt.out.cell (k := 0) rfl)
      have hmc := HS.out.st.b0.cell (k := 0) rfl
      have hmlt := HS.out.st.b0.lt
      have hwlt : w.heap.size < wt.heap.size := HPt.out.st.b0.lt
      have hne1 : ¬ wt.heap.size = T := by omega
      have hne3 : ¬ wt.heap.size = w.heap.size := by omega
      have HR := hid (fun nq => HI.out.round (x1, (⟨xl, xn, xo⟩ : Sq)) (fun _ => false) nq (.int .i64 ((pre.length : Int) + 1)) rfl)
      gi_wp2
      refine wpIn_region_round_lit (by kernel_rfl) (by kernel_rfl) (by kernel_rfl) ?_
      repeat (gi_big_quiet_step (fail))
      refine wpQuietIn_nil ?_
      intro _ hw'
      obtain ⟨nq, hw''⟩ := hw'
      subst hw''
      by_cases hmany : many ≤ (pre.length : Int) + 1
      · gi_wp2
        exact ⟨by first | exact (HR.out _).1 | (rw [hsz]; exact (HR.out _).1), ITc.exit (HR.out _).2.1 (HR.out _).2.2 (HI.out.go rfl) hmany⟩
      · gi_wp2
        exact ⟨by first | exact (HR.out _).1 | (rw [hsz]; exact (HR.out _).1), ITc.next (HR.out _).2.1 (HR.out _).2.2 (by omega)⟩
    case hrest =>
      rintro D1 xs W hD hF hK
      have hf := hF.one rfl
      have hS := HPt.out.low hF.low
      have hTlt := HTt.out.lt
      have hTcW := (hF.low.cell (p := ⟨T, 0, none⟩) hTlt).trans (HTt.out.cell (k := 0) rfl)
      have hcn := hF.n.cell (k := 0) rfl
      have hcw := hS.want.cell (k := 0) rfl
      have hmc := hS.st.b0.cell (k := 0) rfl
      have HP1t := hid (hS.low (below_new W (.cells #[.int .i64 1] 3)))
      have HT1t := hid (Blk.new W [.int .i64 1] 3)
      have HK1 := hid (at_low' (below_new W (.cells #[.int .i64 1] 3)) hK)
      have hDlow : w.heap.size + 2 < D1 := by have := HPt.out.st.b1.lt; omega
      have HDlow := hid hDlow
      have hTn : (T : Nat) < W.heap.size := Nat.lt_of_lt_of_le hTlt hF.low.size
      clear hS hF hK hD hbW hsz hDlow
      generalize hxl : (xs.length : Int) = m at *
      clear hxl
      go_wp2_with fail
      clear hcn hcw hmc hf hTcW hTlt
      generalize W.heap.size = U at *
      generalize W.alloc (.cells #[.int .i64 1] 3) = wu at *
      rw [rounds_succ]
      have hTc := HT1t.out.cell (k := 0) rfl
      go_wp2_with fail
      clear hTc
      refine (wpIn_wide (n := 1)).1 ?_
      have hbW : Below wu.heap.size wu (wu.alloc (.cells #[.int .i64 0] 3)) := below_new wu _
      have hsz : (wu.alloc (.cells #[.int .i64 0] 3)).heap.size = wu.heap.size + 1 := by simp
      obtain ⟨⟩ : True := trivial
      apply wpIn_rangeStB (gf := 46) (lb := #[.pointer (some ⟨g, 0, none⟩)]) rfl (enters_of Try.func46 (by kernel_rfl) rfl) (encs := encsP)
        (lzsteps1_seq (fun k => k < wu.heap.size) (fun _ => false) g a5 c5 ml (wu.alloc (.cells #[.int .i64 0] 3)) (by omega) HP1t.out.box.lt ((HP1t.out.low hbW).box.cell (k := 0) rfl) (fun j u hu => by
          obtain ⟨b, off, e, hb, hc⟩ := HP1t.out.row j u hu
          exact ⟨b, off, e, hb, (hbW.cell (p := ⟨b, off + j, none⟩) hb).trans hc⟩)) (fun _ => rfl)
        (ITc wu 3 many false) (IXc wu 3 many false 2) (ITc.stays wu _ many false (by omega)) (fun c => IXc.stays wu _ many false 2 c (by omega)) (ITc.start wu _ many false)
        2 (FTc wu 3 many false ml.length) ITc.fin IXc.fin (fun _ _ h => h) (fun x => sqc x.2) 49
      case hassign =>
        intro l' pre x W K hI hSp hK
        unfold encsP sqv
        obtain ⟨q, hq⟩ : ∃ q, q = W.heap.size := ⟨_, rfl⟩
        have HK := hid (hK q hq)
        have HQ := hid hq
        clear hK hI hSp hq
        gi_wp2
        rw [← HQ.out]
        exact HK.out
      case hbody =>
        rintro l' pre ⟨x1, ⟨xl, xn, xo⟩⟩ q W hI hq hSp
        obtain ⟨hn1, hn2⟩ := next_of_pre hSp
        have hS := HP1t.out.low hI.low
        have hcn := hI.n.cell (k := 0) rfl
        have hzn := hI.n.frozen 0
        have hcw := hS.want.cell (k := 0) rfl
        have hcp := hS.plc.cell (k := 0) rfl
        have q0 := hq.cell (k := 0) rfl
        have q1 := hq.cell (k := 1) rfl
        have q2 := hq.cell (k := 2) rfl
        dsimp only [sqc] at q0 q1 q2
        obtain ⟨bl, off, haw, hbl0, hw0⟩ := hS.wrow (pre.length * 3 + 0) (.int .i64 xl) (by rw [sqc_get (snd_get hn1) 0 (by omega)]; rfl)
        obtain ⟨bl1, off1, haw1, _, hw1⟩ := hS.wrow (pre.length * 3 + 1) (.int .i64 xn) (by rw [sqc_get (snd_get hn1) 1 (by omega)]; rfl)
        rw [haw] at haw1
        cases haw1
        obtain ⟨bl2, off2, haw2, _, hw2⟩ := hS.wrow (pre.length * 3 + 2) (.int .i64 xo) (by rw [sqc_get (snd_get hn1) 2 (by omega)]; rfl)
        rw [haw] at haw2
        cases haw2
        obtain ⟨bp, offp, hap, hbp0, hp0⟩ := hS.prow pre.length (.int .i64 x1) (fst_get hn1)
        rw [haw] at hcw
        rw [hap] at hcp
        rw [Nat.add_zero] at hw0
        rw [← Nat.add_assoc] at hw1 hw2
        have HI := hid hI
        have HS := hid hS
        have hn2a : (pre.length : Int) < (ml.length : Int) := by omega
        clear hI hS hSp hn1 haw hap hq
        have hdec : ¬ ((ml.length : Int) ≤ (pre.length : Int)) := by omega
        have hdec2 : decide (ml.length ≤ pre.length) = false := by rw [decide_eq_false_iff_not]; omega
        have hTlt := HT1t.out.lt
        have hTcW := (HI.out.low.cell (p := ⟨U, 0, none⟩) hTlt).trans (HT1t.out.cell (k := 0) rfl)
        have hmc := HS.out.st.b0.cell (k := 0) rfl
        have hmlt := HS.out.st.b0.lt
        have hwlt : w.heap.size < wu.heap.size := HP1t.out.st.b0.lt
        have hne1 : ¬ wu.heap.size = U := by omega
        have hne3 : ¬ wu.heap.size = w.heap.size := by omega
        have HR := hid (fun nq => HI.out.round (x1, (⟨xl, xn, xo⟩ : Sq)) (fun _ => false) nq (.int .i64 ((pre.length : Int) + 1)) rfl)
        gi_wp2
        refine wpIn_region_round_lit (by kernel_rfl) (by kernel_rfl) (by kernel_rfl) ?_
        repeat (gi_big_quiet_step (fail))
        refine wpQuietIn_nil ?_
        intro _ hw'
        obtain ⟨nq, hw''⟩ := hw'
        subst hw''
        gi_wp2
        exact ⟨by first | exact (HR.out _).1 | (rw [hsz]; exact (HR.out _).1), ITc.late (HR.out _).2.1 (HR.out _).2.2⟩
      case hrest =>
        rintro D2 xs W hD hF hK
        have hf := hF.two rfl
        have hS := HP1t.out.low hF.low
        have hTlt := HT1t.out.lt
        have hTcW := (hF.low.cell (p := ⟨U, 0, none⟩) hTlt).trans (HT1t.out.cell (k := 0) rfl)
        have hcn := hF.n.cell (k := 0) rfl
        have hcw := hS.want.cell (k := 0) rfl
        have hmc := hS.st.b0.cell (k := 0) rfl
        have HP2 := hid (hS.low (below_new W (.cells #[.int .i64 2] 3)))
        have HT2 := hid (Blk.new W [.int .i64 2] 3)
        have HK2 := hid (at_low' (below_new W (.cells #[.int .i64 2] 3)) hK)
        have HK1b := hid (at_low' (below_new W (.cells #[.int .i64 2] 3)) (at_low' hF.low HK1.out))
        have hDD : D1 < D2 := Nat.lt_of_lt_of_le (Array.getElem?_eq_some_iff.1 HK1.out).1 (by omega)
        have hfi : (xs.length : Int) = (ml.length : Int) := by omega
        have hD1 := HDlow.out
        clear hS hF hK hbW hsz hf
        generalize hxl : (xs.length : Int) = m at *
        clear hxl hD
        go_wp2_with fail
        clear hcn hcw hmc hfi hTcW hTlt
        generalize W.heap.size = V at *
        generalize W.alloc (.cells #[.int .i64 2] 3) = wv at *
        rw [rounds_succ]
        have hTc := HT2.out.cell (k := 0) rfl
        go_wp2_with fail
        refine (HW.out _).mono ?_
        rintro e w40 ⟨rfl, hb40⟩
        have hst40 := (HP2.out.low hb40).st
        have hr40 := hst40.b1.cell (k := 0) rfl
        have hz40 := hst40.b1.frozen 0
        have HK2f := hid (at_low' hb40 HK2.out)
        have HK1f := hid (at_low' hb40 HK1b.out)
        have HS40 := hid hst40
        clear hb40 hst40 hTc
        go_wp2
        have hrs := HS40.out.b1.set 0 (.bool true)
        have hbs := HS40.out.below.setCell (p := ⟨w.heap.size + 1, 0, none⟩) (Nat.le_succ _) (.bool true)
        have hK2 : (w40.setCell ⟨w.heap.size + 1, 0, none⟩ (.bool true)).heap[D2]? = some (.deferred (some [])) := (Below.heap_setCell _ _ _ _ (by dsimp only; omega)).trans HK2f.out
        have hK1 : (w40.setCell ⟨w.heap.size + 1, 0, none⟩ (.bool true)).heap[D1]? = some (.deferred (some [])) := (Below.heap_setCell _ _ _ _ (by dsimp only; omega)).trans HK1f.out
        clear HS40 HK2f HK1f hr40 hz40
        generalize w40.setCell ⟨w.heap.size + 1, 0, none⟩ (.bool true) = W9 at *
        refine ⟨by simp, .inl ⟨_, _, rfl, run_takeDeferred hK2, ?_⟩⟩
        have hK1b := fun o => (World.putObj_heap_other (w := W9) (r := D2) (o := o) (k := D1) (by omega)).trans hK1
        refine ⟨by simp, .inl ⟨_, _, rfl, run_takeDeferred (hK1b _), ?_⟩⟩
        have k1 : ∀ o o', Blk ((W9.putObj D2 o).putObj D1 o') (w.heap.size + 1) [.bool true] 4 := fun o o' => (World.putObj_heap_other (by omega)).trans ((World.putObj_heap_other (by omega)).trans hrs)
        have q1 := fun o o' => (k1 o o').cell (k := 0) rfl
        have hsz9 := hbs.size
        have hb9 := fun o => hbs.grown (grownBy_putObj' W9 D2 o) hsz9 (fun k hk => by cases hk; omega)
        refine ⟨.bool true, by simp [results, Try.results8, go_sem, q1], rfl, (hb9 _).grown (grownBy_putObj' _ _ _) (hb9 _).size (fun k hk => by cases hk; omega)⟩
end Go.Proofs.Ytclheffeiaaodaa
namespace Go.Proofs.Ytclheffeiaaodaa.LLazySteps
open Go.ChangeShapes Go.WideShapes Go.ChangeAt Go.RowKit Go.Port

set_option maxRecDepth 100000 in
theorem lifted (os : Os) (started : os.Started) (H : Type) (enc : TypeId × Value → H) :
    ReturnsInHanded {} Try.checked os 8 .any (Rows.lazyStepsSpec.pre6 enc Try.prog Try.f8 Rows.lazyStepsRow.domain false) (Rows.lazyStepsSpec.post enc Try.prog Try.f8 false true false false) := by
  refine returnsInHanded_of_change (C := Try.checked) Try.own started (by kernel_rfl) Try.func8
    (ChangeSpec.witness6 (enc := enc) (C := Try.checked) false ⟨#[], #[.slice none 0 0, .slice none 0 0, .int .i64 0, .int .i64 0, .int .i64 0, .int .i64 0], []⟩ 8 (by kernel_rfl) (by kernel_rfl) (by kernel_rfl) (by kernel_rfl)) ?_
  intro W base args ds gs before hval0 hW hcnd _
  have hval : ∀ (j : Nat) t v, Try.f8.params[j]? = some t → args[j]? = some v → Value.okWide Try.prog W .any base t v := hval0
  have hW' := hW
  obtain ⟨p, q, hA0, hV, rfl, hfz, hnd⟩ := hW
  have hA : DataW.TrodAll enc Try.prog W 0 (fun _ => true) true Try.f8.params.toList args.toList ds p := hA0
  rw [Try.params8] at hA hval
  obtain ⟨v0, vs0, d0, ds0, p0, q0, hargs, rfl, rfl, h0, r0⟩ := trodAll_cons hA
  obtain ⟨v1, vs1, d1, ds1, p1, q1, rfl, rfl, rfl, h1, r1⟩ := trodAll_cons r0
  obtain ⟨v2, vs2, d2, ds2, p2, q2, rfl, rfl, rfl, h2, r2⟩ := trodAll_cons r1
  obtain ⟨v3, vs3, d3, ds3, p3, q3, rfl, rfl, rfl, h3, r3⟩ := trodAll_cons r2
  obtain ⟨v4, vs4, d4, ds4, p4, q4, rfl, rfl, rfl, h4, r4⟩ := trodAll_cons r3
  obtain ⟨v5, vs5, d5, ds5, p5, q5, rfl, rfl, rfl, h5, r5⟩ := trodAll_cons r4
  obtain ⟨rfl, rfl, rfl⟩ := trodAll_nil r5
  obtain rfl : args = #[v0, v1, v2, v3, v4, v5] := by cases args; simp_all
  obtain ⟨rfl, rfl⟩ := trodVars_none hV
  obtain ⟨l0, hl0, wl0⟩ := open_rowV Try.underlying22 Try.underlying5 (by kernel_rfl) (hval 0 22 v0 rfl rfl) h0
  obtain ⟨bs0, hbs0, hn0⟩ := bytes_of wl0
  rw [hbs0, ← hn0] at hl0
  obtain ⟨l1, hl1, wl1⟩ := open_rowV Try.underlying22 Try.underlying5 (by kernel_rfl) (hval 1 22 v1 rfl rfl) h1
  obtain ⟨bs1, hbs1, hn1⟩ := bytes_of wl1
  rw [hbs1, ← hn1] at hl1
  obtain ⟨a2, rfl, rfl, rfl, w2⟩ := open_int Try.underlying3 (hval 2 3 v2 rfl rfl) h2
  obtain ⟨a3, rfl, rfl, rfl, w3⟩ := open_int Try.underlying3 (hval 3 3 v3 rfl rfl) h3
  obtain ⟨a4, rfl, rfl, rfl, w4⟩ := open_int Try.underlying3 (hval 4 3 v4 rfl rfl) h4
  obtain ⟨a5, rfl, rfl, rfl, w5⟩ := open_int Try.underlying3 (hval 5 3 v5 rfl rfl) h5
  clear hA0 hval0
  simp only [List.append_nil] at hW'
  refine (LazySteps_walk W v0 bs0 hl0 v1 bs1 hl1 a2 a3 a4 a5 (bounds_i64 w5)).mono fun e W' ⟨he, hb⟩ => ?_
  subst he
  exact ⟨_, rfl, law_post Try.kids Try.full Try.underlying4 rfl rfl hW' (by rw [Try.params8]; decide) rfl rfl rfl hb⟩

theorem over : Rows.lazyStepsRow.holds Try.pinned (OpenSpec.ofChange Rows.lazyStepsSpec) :=
  OpenClaim.holds_of_wide 8 Try.f8 rfl rfl rfl rfl rfl rfl rfl ⟨rfl, rfl, rfl, rfl, rfl⟩ rfl rfl rfl rfl rfl (by kernel_rfl) Try.func8 (by kernel_rfl)
    (of_decide_eq_true (by kernel_rfl)) (by unfold Func.isWrapper; first | (rw [if_pos (by decide +kernel)]; kernel_rfl) | (rw [if_neg (by decide +kernel)]; exact ⟨rfl, rfl⟩))
    (fun os started H enc _ => lifted os started H enc)

/-- The statement. -/
theorem proved : Rows.LazyStepsSaid :=
  over
end Go.Proofs.Ytclheffeiaaodaa.LLazySteps
