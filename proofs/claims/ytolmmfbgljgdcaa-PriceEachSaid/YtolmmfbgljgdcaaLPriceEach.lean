/-
  The law PriceEach: the iterator over the costs of prefixes, early exit, a second use: for any four histograms of at most 300 counts, at most 100 bytes, any number of rounds. No condition.
-/
import Derived.Test.YtolmmfbgljgdcaaPrK
import Derived.Deep.DeepCutAuto
import Derived.LoopN
import Derived.Shelf.RegionOpen
import Derived.Sort.QuietIn
namespace Go.Proofs.Ytolmmfbgljgdcaa
open Go.RowKit Go.Port

attribute [local go_sem] Oper.semAt_some

theorem prfn_nil (f : Nat) (lb : Array Value) (w : World) : (binOp .eql 60 (.func (.func f) #[] lb) .nilFunc).run Try.prog w = .ok (.bool false) w := by kernel_rfl

set_option maxRecDepth 1000000 in
set_option maxHeartbeats 8000000 in
theorem PriceEach_walk (w : World) (A : Nat → Option Addr) (cp : Nat → Nat) (C : Nat → List Int) (h : FourAt w A cp C) (v1 : Value) (bs : List UInt8) (h1 : Rs w 1 v1 bs.length (bs.map bv)) (many : Int) (hmb : -9223372036854775808 ≤ many ∧ many ≤ 9223372036854775807) :
    Calls Try.prog 8 #[fourV A cp C, v1, .int .i64 many] w (RetV w (.bool true)) := by
  have HW := hid prworks_any
  obtain ⟨_, a, c, rfl, hk1, _, hn1, hc1⟩ := h1
  have hbw : Below w.heap.size w ((((w.alloc (.cells #[.slice (A 0) (C 0).length (cp 0), .slice (A 1) (C 1).length (cp 1), .slice (A 2) (C 2).length (cp 2), .slice (A 3) (C 3).length (cp 3)] 23)).alloc (.cells #[.slice a bs.length c] 24)).alloc (.cells #[.int .i64 many] 3)).alloc (.cells #[.bool false] 4)) := (((below_new w _).alloc (by simp) _).alloc (by simp; omega) _).alloc (by simp; omega) _
  have HX0 := hid (show Blk ((((w.alloc (.cells #[.slice (A 0) (C 0).length (cp 0), .slice (A 1) (C 1).length (cp 1), .slice (A 2) (C 2).length (cp 2), .slice (A 3) (C 3).length (cp 3)] 23)).alloc (.cells #[.slice a bs.length c] 24)).alloc (.cells #[.int .i64 many] 3)).alloc (.cells #[.bool false] 4)) w.heap.size [.slice (A 0) (C 0).length (cp 0), .slice (A 1) (C 1).length (cp 1), .slice (A 2) (C 2).length (cp 2), .slice (A 3) (C 3).length (cp 3)] 23 from ((((Blk.newAt rfl).alloc _).alloc _).alloc _))
  have HBo0 := hid (show Blk ((((w.alloc (.cells #[.slice (A 0) (C 0).length (cp 0), .slice (A 1) (C 1).length (cp 1), .slice (A 2) (C 2).length (cp 2), .slice (A 3) (C 3).length (cp 3)] 23)).alloc (.cells #[.slice a bs.length c] 24)).alloc (.cells #[.int .i64 many] 3)).alloc (.cells #[.bool false] 4)) (w.heap.size + 1) [.slice a bs.length c] 24 from (((Blk.newAt (by simp)).alloc _).alloc _))
  have HMn0 := hid (show Blk ((((w.alloc (.cells #[.slice (A 0) (C 0).length (cp 0), .slice (A 1) (C 1).length (cp 1), .slice (A 2) (C 2).length (cp 2), .slice (A 3) (C 3).length (cp 3)] 23)).alloc (.cells #[.slice a bs.length c] 24)).alloc (.cells #[.int .i64 many] 3)).alloc (.cells #[.bool false] 4)) (w.heap.size + 1 + 1) [.int .i64 many] 3 from ((Blk.newAt (by simp)).alloc _))
  have HRs0 := hid (show Blk ((((w.alloc (.cells #[.slice (A 0) (C 0).length (cp 0), .slice (A 1) (C 1).length (cp 1), .slice (A 2) (C 2).length (cp 2), .slice (A 3) (C 3).length (cp 3)] 23)).alloc (.cells #[.slice a bs.length c] 24)).alloc (.cells #[.int .i64 many] 3)).alloc (.cells #[.bool false] 4)) (w.heap.size + 1 + 1 + 1) [.bool false] 4 from Blk.newAt (by simp))
  have HD := hid (show Cs w a (bs.map bv) from hc1)
  have HF00 := hid h
  have HF0 := hid (h.low hbw)
  have HB0 := hid hbw
  have HN := hid (And.intro hk1 hn1)
  have HMb := hid hmb
  clear h hc1 hbw hk1 hn1 hmb
  by_cases hlim : fewB C = true ∧ (bs.length : Int) ≤ 100
  rotate_left
  · have HFw := hid (fun W => prfew_any A cp C W)
    unfold fourV at HFw
    unfold fourV
    have c0 := HX0.out.cell (k := 0) rfl
    have c1 := HX0.out.cell (k := 1) rfl
    have c2 := HX0.out.cell (k := 2) rfl
    have c3 := HX0.out.cell (k := 3) rfl
    go_enter Try.func8, Try.ntmps8
    go_wp2_with fail
    clear c0 c1 c2 c3
    generalize (((w.alloc (.cells #[.slice (A 0) (C 0).length (cp 0), .slice (A 1) (C 1).length (cp 1), .slice (A 2) (C 2).length (cp 2), .slice (A 3) (C 3).length (cp 3)] 23)).alloc (.cells #[.slice a bs.length c] 24)).alloc (.cells #[.int .i64 many] 3)).alloc (.cells #[.bool false] 4) = w0 at *
    refine (HFw.out _).mono ?_
    rintro e w1 ⟨rfl, hb⟩
    have HB1 := hid (HB0.out.trans (hb.mono HB0.out.size))
    have HR1 := hid (HRs0.out.below hb HRs0.out.lt)
    have kb := (HBo0.out.below hb HBo0.out.lt).cell (k := 0) rfl
    clear hb
    cases hfew : fewB C with
    | false =>
      go_wp2_with fail
      refine (HW.out _).mono ?_
      rintro e w2 ⟨rfl, hb⟩
      have HB2 := hid (HB1.out.trans (hb.mono HB1.out.size))
      have HR2 := hid (HR1.out.below hb HR1.out.lt)
      have r0 := HR2.out.cell (k := 0) rfl
      have r1 := HR2.out.frozen 0
      clear hb kb
      go_wp2
      have hrs := HR2.out.set 0 (.bool true)
      have hbs := HB2.out.setCell (p := ⟨w.heap.size + 1 + 1 + 1, 0, none⟩) (by simp only; omega) (.bool true)
      clear r0 r1
      have q1 := hrs.cell (k := 0) rfl
      generalize w2.setCell ⟨w.heap.size + 1 + 1 + 1, 0, none⟩ (.bool true) = W9 at *
      refine bodyPost_ret (v := .bool true) (by simp [results, Try.results8, go_sem, q1]) rfl ?_
      exact ⟨rfl, hbs⟩
    | true =>
      have hlim2 : ¬ (bs.length : Int) ≤ 100 := fun e => hlim ⟨hfew, e⟩
      go_wp2_with fail
      refine (HW.out _).mono ?_
      rintro e w2 ⟨rfl, hb⟩
      have HB2 := hid (HB1.out.trans (hb.mono HB1.out.size))
      have HR2 := hid (HR1.out.below hb HR1.out.lt)
      have r0 := HR2.out.cell (k := 0) rfl
      have r1 := HR2.out.frozen 0
      clear hb kb
      go_wp2
      have hrs := HR2.out.set 0 (.bool true)
      have hbs := HB2.out.setCell (p := ⟨w.heap.size + 1 + 1 + 1, 0, none⟩) (by simp only; omega) (.bool true)
      clear r0 r1
      have q1 := hrs.cell (k := 0) rfl
      generalize w2.setCell ⟨w.heap.size + 1 + 1 + 1, 0, none⟩ (.bool true) = W9 at *
      refine bodyPost_ret (v := .bool true) (by simp [results, Try.results8, go_sem, q1]) rfl ?_
      exact ⟨rfl, hbs⟩
  have HFw := hid (fun W => by have := prfew_any A cp C W; rw [hlim.1] at this; exact this)
  unfold fourV at HFw
  unfold fourV
  have c0 := HX0.out.cell (k := 0) rfl
  have c1 := HX0.out.cell (k := 1) rfl
  have c2 := HX0.out.cell (k := 2) rfl
  have c3 := HX0.out.cell (k := 3) rfl
  have hlm := hlim.2
  refine (callsIn_wide (n := 1)).1 ?_
  refine callsIn_of_wp_marks Try.func8 rfl trivial ?_ rfl
  simp only [Try.ntmps8, List.size_toArray, List.length_cons, List.length_nil, Nat.reduceAdd, Nat.reduceSub, Array.replicate_succ, Array.replicate_zero, List.push_toArray, List.append_toArray, List.nil_append, List.cons_append]
  refine wpIn_wide.2 ?_
  go_wp2_with fail
  clear c0 c1 c2 c3 hlim
  generalize (((w.alloc (.cells #[.slice (A 0) (C 0).length (cp 0), .slice (A 1) (C 1).length (cp 1), .slice (A 2) (C 2).length (cp 2), .slice (A 3) (C 3).length (cp 3)] 23)).alloc (.cells #[.slice a bs.length c] 24)).alloc (.cells #[.int .i64 many] 3)).alloc (.cells #[.bool false] 4) = w0 at *
  refine (HFw.out _).mono ?_
  rintro e w1 ⟨rfl, hb⟩
  have HB1 := hid (HB0.out.trans (hb.mono HB0.out.size))
  have HX1 := hid (HX0.out.below hb HX0.out.lt)
  have HBo1 := hid (HBo0.out.below hb HBo0.out.lt)
  have HMn1 := hid (HMn0.out.below hb HMn0.out.lt)
  have HR1 := hid (HRs0.out.below hb HRs0.out.lt)
  have kb := HBo1.out.cell (k := 0) rfl
  have c0 := HX1.out.cell (k := 0) rfl
  have c1 := HX1.out.cell (k := 1) rfl
  have c2 := HX1.out.cell (k := 2) rfl
  have c3 := HX1.out.cell (k := 3) rfl
  clear HX0 HBo0 HMn0 HRs0 HFw
  have HF1 := hid (HF0.out.low hb)
  clear HF0 HB0 hb
  go_wp2_with fail
  clear c0 c1 c2 c3 HX1 kb
  by_cases hok : ∀ k, k < 4 → HistOk k (C k)
  · have HBt := hid (prboth_ok A cp C w1 HF1.out hok)
    unfold fourV at HBt
    refine HBt.out.mono ?_
    rintro e w2 ⟨M, rfl, hp, hb⟩
    have HPr2 := hid hp
    have HOk := hid hok
    have HB2 := hid (HB1.out.trans (hb.mono HB1.out.size))
    have HBo2 := hid (HBo1.out.below hb HBo1.out.lt)
    have HMn2 := hid (HMn1.out.below hb HMn1.out.lt)
    have HR2 := hid (HR1.out.below hb HR1.out.lt)
    clear hb HBt HB1 HBo1 HMn1 HR1 hok hp
    go_upto_region 6 with fail
    have hb := below_new w2 (.cells #[.slice (A 0) (C 0).length (cp 0), .slice (A 1) (C 1).length (cp 1), .slice (A 2) (C 2).length (cp 2), .slice (A 3) (C 3).length (cp 3)] 29)
    have HB3 := hid (HB2.out.trans (hb.mono HB2.out.size))
    have HBo3 := hid (HBo2.out.below hb HBo2.out.lt)
    have HMn3 := hid (HMn2.out.below hb HMn2.out.lt)
    have HR3 := hid (HR2.out.below hb HR2.out.lt)
    have HPr3 := hid (HPr2.out.low hb)
    have HX3 := hid (Blk.new w2 [.slice (A 0) (C 0).length (cp 0), .slice (A 1) (C 1).length (cp 1), .slice (A 2) (C 2).length (cp 2), .slice (A 3) (C 3).length (cp 3)] 29)
    clear hb HB2 HBo2 HMn2 HR2 HPr2
    obtain ⟨pb, hpb⟩ : ∃ pb, w2.heap.size = pb := ⟨_, rfl⟩
    rw [hpb] at HX3 ⊢
    generalize w2.alloc (.cells #[.slice (A 0) (C 0).length (cp 0), .slice (A 1) (C 1).length (cp 1), .slice (A 2) (C 2).length (cp 2), .slice (A 3) (C 3).length (cp 3)] 29) = w3 at *
    clear hpb
    have kb := HBo3.out.cell (k := 0) rfl
    go_upto_region 7 with fail
    clear kb
    have hb := below_new w3 (.cells #[.int .i64 (bs.length : Int)] 3)
    have HB4 := hid (HB3.out.trans (hb.mono HB3.out.size))
    have HBo4 := hid (HBo3.out.below hb HBo3.out.lt)
    have HMn4 := hid (HMn3.out.below hb HMn3.out.lt)
    have HR4 := hid (HR3.out.below hb HR3.out.lt)
    have HPr4 := hid (HPr3.out.low hb)
    have HX4 := hid (HX3.out.below hb HX3.out.lt)
    have HWn4 := hid (Blk.new w3 [.int .i64 (bs.length : Int)] 3)
    have hlbw : w.heap.size + 1 + 1 + 1 < w3.heap.size := HR3.out.lt
    have hpblb : pb < w3.heap.size := HX3.out.lt
    clear hb HB3 HBo3 HMn3 HR3 HPr3 HX3
    obtain ⟨lb, hlb⟩ : ∃ lb, w3.heap.size = lb := ⟨_, rfl⟩
    rw [hlb] at HWn4 hlbw hpblb ⊢
    generalize w3.alloc (.cells #[.int .i64 (bs.length : Int)] 3) = w4 at *
    clear hlb
    go_upto_region 9 with fail
    have kb := (HBo4.out.alloc (.cells #[] 5)).cell (k := 0) rfl
    have HDn := hid (HD.out.low (HB4.out.trans ((below_new w4 (.cells #[] 5)).mono HB4.out.size)))
    go_wp2_with (at_builtin; refine Hid.out ?_)
    refine hid ?_
    refine wpList_appendsK rfl _ _ 24 rfl 5 _ 1 1 Try.underlying24 Try.info_u8 rfl (by decide) (by decide) _ w4.heap.size (.slice (some ⟨w4.heap.size, 0, none⟩) 0 0) 0 bs.length c a [] (bs.map bv) (by simp) ?hu4 rfl rfl HN.out.1 HN.out.2 (by exact HDn.out) (own_emptyK 1 (Nat.le_refl _)) ?hn4 ?hb4 ?hk4
    case hu4 =>
      intro u hu
      obtain ⟨x, _, rfl⟩ := List.mem_map.1 hu
      rfl
    case hn4 => omega
    case hb4 => simp
    case hk4 =>
      intro v' w6 hown hg
      rw [List.nil_append, Nat.zero_add] at hown
      have HB6c := hid ((below_new w4 (.cells #[] 5)).grown hg (by simp) (fun k hk => ((own_emptyK (e := 5) 1 (Nat.le_refl w4.heap.size)).lt k hk).1))
      clear hg kb HDn
      obtain ⟨a6, c6, rfl⟩ := own_slice hown
      obtain ⟨hc6, hn6, hcs6, _⟩ := own_cs hown rfl rfl
      have HOw := hid hown
      have HC6 := hid (And.intro hc6 (And.intro hn6 hcs6))
      clear hown hc6 hn6 hcs6
      go_wp2_with fail
      refine (prprefixes_any w6 (some ⟨M, 0, none⟩) a6 c6 bs (by omega) HC6.out.1 HC6.out.2.1 HC6.out.2.2).mono ?_
      rintro e w7 ⟨q1, q2, b, cb, rfl, hq1, hq2, hB1, hB2, hown2, hb⟩
      have hfn := fun W => prfn_nil 60 #[.pointer (some ⟨q1, 0, none⟩), .pointer (some ⟨q2, 0, none⟩)] W
      have HB7c := hid (HB6c.out.trans (hb.mono HB6c.out.size))
      have hOw7 := own_low HOw.out hb
      obtain ⟨hcb, hnb, hcsb, hbaseb⟩ := own_cs hown2 rfl rfl
      obtain ⟨G, hG0, hG1, hG2⟩ : ∃ G, (0 < bs.length → a6 = some ⟨G, 0, none⟩ ∧ OwnQ w7 G bs.length .u8 5) ∧ w4.heap.size ≤ G ∧ (0 < bs.length → G < w6.heap.size) := by
        by_cases h0 : 0 < bs.length
        · obtain ⟨G, e1, e2, e3⟩ := own_q hOw7 rfl rfl h0
          refine ⟨G, fun _ => ⟨e1, e3⟩, e2, fun _ => ?_⟩
          obtain ⟨_, e4, _, e5⟩ := own_q HOw.out rfl rfl h0
          rw [e1] at e4
          cases e4
          obtain ⟨_, _, _, e6⟩ := e5
          exact e6.lt
        · exact ⟨w4.heap.size, fun h => absurd h h0, Nat.le_refl _, fun h => absurd h h0⟩
      have HG := hid hG0
      have HZ := hid (And.intro hG1 hG2)
      have HQ := hid (And.intro hq1 hq2)
      have HB1q := hid hB1
      have HB2q := hid hB2
      have HCb := hid (And.intro hcsb hbaseb)
      clear hown2 hOw7 HOw hG0 hG1 hG2 hq1 hq2 hB1 hB2 hcb hnb hcsb hbaseb hb HB6c
      go_wp2_with fail
      clear hfn
      go_loopw [14] (fun i wr => ∃ k : Nat, k ≤ bs.length ∧ i = .int .i64 (k : Int) ∧ (0 < bs.length → OwnQ wr G bs.length .u8 5) ∧ (wr = w7 ∨ (0 < bs.length ∧ Mid G (G + 1) w7 wr))) (fun i _ => bs.length - (intOf i).toNat)
      case atStart => exact ⟨0, Nat.zero_le _, rfl, fun h => (HG.out h).2, .inl rfl⟩
      case round =>
        obtain ⟨k, hk, rfl, hoq, hmid⟩ := hrel
        by_cases hlt : k < bs.length
        · obtain ⟨ha6, _⟩ := HG.out (by omega)
          subst ha6
          obtain ⟨x, x0, x1, hst⟩ := (hoq (by omega)).at hlt
          have HMid := hid (show 0 < bs.length ∧ Mid G (G + 1) w7 wr from by
            rcases hmid with rfl | h
            · exact ⟨by omega, Mid.refl _ _ _⟩
            · exact h)
          have HSt := hid hst
          have HLt := hid hlt
          have hkI : (k : Int) < (bs.length : Int) := by omega
          have hc6I : (bs.length : Int) ≤ (c6 : Int) := by have := HC6.out.1; omega
          clear hoq hmid hst hlt hk
          go_wp2
          go_roundw
          case rel => exact ⟨k + 1, HLt.out, by go_num, fun _ => HSt.out _, .inr ⟨HMid.out.1, HMid.out.2.set (Nat.le_refl _) (Nat.lt_succ_self _) _⟩⟩
          case measure => have := HLt.out; simp [intOf]; omega
        · obtain rfl : k = bs.length := by omega
          have HMid := hid (show Below w4.heap.size w4 wr ∧ Blk wr q1 [.pointer (some ⟨M, 0, none⟩)] 27 ∧ Blk wr q2 [.slice b bs.length cb] 24 ∧ Cs wr b (bs.map bv) from by
            rcases hmid with rfl | ⟨h0, h⟩
            · exact ⟨HB7c.out, HB1q.out, HB2q.out, HCb.out.1⟩
            · have hz2 := HZ.out.2 h0
              have hq := HQ.out
              exact ⟨HB7c.out.trans (h.below.mono HZ.out.1), h.blk HB1q.out (.inr (by omega)), h.blk HB2q.out (.inr (by omega)), Mid.cs h HCb.out.1 (fun x hx _ => .inr (by have := HCb.out.2 x hx; omega))⟩)
          clear hoq hmid hk hlt HG HZ HQ HB1q HB2q HCb HC6 HB7c
          have hb := HMid.out.1
          have HB9 := hid (HB4.out.trans (hb.mono HB4.out.size))
          have HBo9 := hid (HBo4.out.below hb HBo4.out.lt)
          have HMn9 := hid (HMn4.out.below hb HMn4.out.lt)
          have HR9 := hid (HR4.out.below hb HR4.out.lt)
          have HPr9 := hid (HPr4.out.low hb)
          have HX9 := hid (HX4.out.below hb HX4.out.lt)
          have HWn9 := hid (HWn4.out.below hb HWn4.out.lt)
          have HPt0 := hid (show EaS w wr a c bs many bs.length lb (ItLive A cp C bs M pb q1 q2 b cb) from
            ⟨HBo9.out, HMn9.out, HR9.out, HB9.out, HD.out.low HB9.out, HWn9.out, ⟨⟨HF00.out.low HB9.out, HOk.out⟩, HX9.out, HPr9.out, HMid.out.2.1, HMid.out.2.2.1, HMid.out.2.2.2⟩⟩)
          clear hb HMid HB9 HBo9 HMn9 HR9 HPr9 HX9 HWn9 HB4 HBo4 HMn4 HR4 HPr4 HX4 HWn4
          go_wp2_with fail
          have HPt := hid (EaS.low' ItLive.low HPt0.out (below_new wr (.cells #[.int .i64 0] 3)))
          have HTt := hid (Blk.new wr [.int .i64 0] 3)
          clear HPt0
          generalize wr.heap.size = T at *
          generalize wr.alloc (.cells #[.int .i64 0] 3) = wt at *
          refine wp_loop_rounds 3 ?_
          rw [rounds_succ]
          have hTc := HTt.out.cell (k := 0) rfl
          go_wp2_with fail
          clear hTc
          refine (wpIn_wide (n := 1)).1 ?_
          have hbW : Below wt.heap.size wt (wt.alloc (.cells #[.int .i64 0] 3)) := below_new wt _
          have hsz : (wt.alloc (.cells #[.int .i64 0] 3)).heap.size = wt.heap.size + 1 := by simp
          obtain ⟨⟩ : True := trivial
          apply wpIn_rangeStA (gf := 60) (lb := #[.pointer (some ⟨q1, 0, none⟩), .pointer (some ⟨q2, 0, none⟩)]) rfl (enters_of Try.func60 (by kernel_rfl) rfl) (encs := fun x : Int × Int => #[.int .i64 x.1, .int .i64 x.2])
            (prpre1_seq (fun k => k < wt.heap.size) (fun _ => false) wt (wt.alloc (.cells #[.int .i64 0] 3)) (fun _ hk => hk) hbW M C HPt.out.it.pr q1 q2 b cb bs (by omega) HPt.out.it.b1 HPt.out.it.b2 HPt.out.it.cs) (fun _ => rfl)
            (ITc wt 3 many true) (IXc wt 3 many true 4) (ITc.stays wt _ many true (by omega)) (fun c => IXc.stays wt _ many true 4 c (by omega)) (ITc.start wt _ many true)
            4 (FTc wt 3 many true (preL C bs).length) ITc.fin IXc.fin (fun _ _ h => h)
          case hassign =>
            intro l' x W K hK
            gi_wp2
            exact hK
          case hbody =>
            rintro l' pre ⟨x1, x2⟩ W hI hSp
            obtain ⟨hn1, hn2⟩ := next_of_pre hSp
            rw [preL_length] at hn2
            rw [preL_at C bs hn2] at hn1
            simp only [Option.some.injEq, Prod.mk.injEq] at hn1
            obtain ⟨rfl, rfl⟩ := hn1
            generalize hKK : pre.length + 1 = K at *
            have hS := EaS.low' ItLive.low HPt.out hI.low
            have HI := hid hI
            have HS := hid hS
            have hnlt := hI.n.lt
            have hwlt := hS.want.lt
            have hplt := hS.it.blk.lt
            have hblt := hS.box.lt
            have hn2I : (pre.length : Int) < (bs.length : Int) := by omega
            have hg1 : decide ((bs.length : Int) ≤ (pre.length : Int)) = false := by simp; omega
            have hkw : IntKind.i64.wrap ((pre.length : Int) + 1) = (K : Int) := by rw [IntKind.wrap_i64]; omega
            have hcut := cut_u8_hi a bs.length c K (by have := HN.out.1; omega)
            have hcutA := cut_u8_hiAt a bs.length c K (by have := HN.out.1; omega)
            have HRl := hid (fun W' (hb : Below W.heap.size W W') => by
              have h := rlits_any A cp C W' (HS.out.it.rf.low hb) (cutA a c 0 1) c (bs.take K) (by rw [List.length_take]; omega) (by
                have h2 := cutA_cs (HS.out.data.low hb) c 0 1 (by rw [List.length_map]; have := HN.out.1; omega) K
                rw [Nat.zero_mul, List.drop_zero, ← List.map_take] at h2
                exact h2)
              rw [List.length_take, Nat.min_eq_left (by omega)] at h
              exact h)
            unfold fourV at HRl
            generalize litsC C (bs.take K) = X at *
            clear hS hSp hn2
            gi_wp2
            have hb3 := Below.refl W.heap.size W
            refine wpIn_region_round_held (fun W' => Below W.heap.size W W') (by kernel_rfl) (by kernel_rfl) hb3.drew (fun hHeld => ?_)
            simp only [List.size_toArray, List.length_cons, List.length_nil, Nat.reduceAdd, Array.replicate_succ, Array.replicate_zero, List.push_toArray, List.nil_append, List.cons_append]
            refine wpAnyH_take (i := 0) (v := .int .i64 (pre.length : Int)) (by simp only [List.getElem?_toArray, List.getElem?_cons_zero]; rfl) (by kernel_rfl) (by kernel_rfl) (by kernel_rfl) (fun _ _ _ h => h) (Or.inl ⟨by rfl, fun W hSw => ?_⟩) (by assumption) ?_
            · clear hSw
              go_simp
            simp only [Act.put, List.setIfInBounds_toArray, List.set_cons_zero, List.set_cons_succ]
            refine wpAnyH_take (i := 1) (v := .int .i64 (pre.length : Int)) (by simp only [List.getElem?_toArray, List.getElem?_cons_zero, List.getElem?_cons_succ]; rfl) (by kernel_rfl) (by kernel_rfl) (by kernel_rfl) (fun _ _ _ h => h) (Or.inl ⟨by rfl, fun W hSw => ?_⟩) (by assumption) ?_
            · have hcw := (hSw.cell (p := ⟨wt.heap.size, 0, none⟩) hnlt).trans (HI.out.n.cell (k := 0) rfl)
              go_simp
            simp only [Act.put, List.setIfInBounds_toArray, List.set_cons_zero, List.set_cons_succ]
            refine wpAnyH_take (i := 2) (v := .bool false) (by simp only [List.getElem?_toArray, List.getElem?_cons_zero, List.getElem?_cons_succ]; rfl) (by kernel_rfl) (by kernel_rfl) (by kernel_rfl) (fun _ _ _ h => h) (Or.inl ⟨by rfl, fun W hSw => ?_⟩) (by assumption) ?_
            · clear hSw
              go_simp
            simp only [Act.put, List.setIfInBounds_toArray, List.set_cons_zero, List.set_cons_succ]
            refine wpAnyH_take (i := 3) (v := .bool false) (by simp only [List.getElem?_toArray, List.getElem?_cons_zero, List.getElem?_cons_succ]; rfl) (by kernel_rfl) (by kernel_rfl) (by kernel_rfl) (fun _ _ _ h => h) (Or.inl ⟨by rfl, fun W hSw => ?_⟩) (by assumption) ?_
            · clear hSw
              go_simp
            simp only [Act.put, List.setIfInBounds_toArray, List.set_cons_zero, List.set_cons_succ]
            refine wpAnyH_take (i := 4) (v := .int .i64 (pre.length : Int)) (by simp only [List.getElem?_toArray, List.getElem?_cons_zero, List.getElem?_cons_succ]; rfl) (by kernel_rfl) (by kernel_rfl) (by kernel_rfl) (fun _ _ _ h => h) (Or.inl ⟨by rfl, fun W hSw => ?_⟩) (by assumption) ?_
            · have hcw := (hSw.cell (p := ⟨wt.heap.size, 0, none⟩) hnlt).trans (HI.out.n.cell (k := 0) rfl)
              go_simp
            simp only [Act.put, List.setIfInBounds_toArray, List.set_cons_zero, List.set_cons_succ]
            refine wpAnyH_take (i := 5) (v := .int .i64 (bs.length : Int)) (by simp only [List.getElem?_toArray, List.getElem?_cons_zero, List.getElem?_cons_succ]; rfl) (by kernel_rfl) (by kernel_rfl) (by kernel_rfl) (fun _ _ _ h => h) (Or.inl ⟨by rfl, fun W hSw => ?_⟩) (by assumption) ?_
            · have hcw := (hSw.cell (p := ⟨lb, 0, none⟩) hwlt).trans (HS.out.want.cell (k := 0) rfl)
              go_simp
            simp only [Act.put, List.setIfInBounds_toArray, List.set_cons_zero, List.set_cons_succ]
            refine wpAnyH_take (i := 6) (v := .bool false) (by simp only [List.getElem?_toArray, List.getElem?_cons_zero, List.getElem?_cons_succ]; rfl) (by kernel_rfl) (by kernel_rfl) (by kernel_rfl) (fun _ _ _ h => h) (Or.inl ⟨by rfl, fun W hSw => ?_⟩) (by assumption) ?_
            · clear hSw
              (go_simp; omega)
            simp only [Act.put, List.setIfInBounds_toArray, List.set_cons_zero, List.set_cons_succ]
            refine wpAnyH_take (i := 7) (v := .bool false) (by simp only [List.getElem?_toArray, List.getElem?_cons_zero, List.getElem?_cons_succ]; rfl) (by kernel_rfl) (by kernel_rfl) (by kernel_rfl) (fun _ _ _ h => h) (Or.inl ⟨by rfl, fun W hSw => ?_⟩) (by assumption) ?_
            · clear hSw
              go_simp
            simp only [Act.put, List.setIfInBounds_toArray, List.set_cons_zero, List.set_cons_succ]
            refine wpAnyH_take (i := 8) (v := .bool false) (by simp only [List.getElem?_toArray, List.getElem?_cons_zero, List.getElem?_cons_succ]; rfl) (by kernel_rfl) (by kernel_rfl) (by kernel_rfl) (fun _ _ _ h => h) (Or.inl ⟨by rfl, fun W hSw => ?_⟩) (by assumption) ?_
            · clear hSw
              go_simp
            simp only [Act.put, List.setIfInBounds_toArray, List.set_cons_zero, List.set_cons_succ]
            refine wpAnyH_take (i := 9) (v := .int .i64 X) (by simp only [List.getElem?_toArray, List.getElem?_cons_zero, List.getElem?_cons_succ]; rfl) (by kernel_rfl) (by kernel_rfl) (by kernel_rfl) (fun _ _ _ h => h) (Or.inl ⟨by rfl, fun W hSw => ?_⟩) (by assumption) ?_
            · clear hSw
              go_simp
            simp only [Act.put, List.setIfInBounds_toArray, List.set_cons_zero, List.set_cons_succ]
            refine wpAnyH_take (i := 10) (v := .agg #[.slice (A 0) (C 0).length (cp 0), .slice (A 1) (C 1).length (cp 1), .slice (A 2) (C 2).length (cp 2), .slice (A 3) (C 3).length (cp 3)]) (by simp only [List.getElem?_toArray, List.getElem?_cons_zero, List.getElem?_cons_succ]; rfl) (by kernel_rfl) (by kernel_rfl) (by kernel_rfl) (fun _ _ _ h => h) (Or.inl ⟨by rfl, fun W hSw => ?_⟩) (by assumption) ?_
            · have hcw0 := (hSw.cell (p := ⟨pb, 0, none⟩) hplt).trans (HS.out.it.blk.cell (k := 0) rfl)
              have hcw1 := (hSw.cell (p := ⟨pb, 1, none⟩) hplt).trans (HS.out.it.blk.cell (k := 1) rfl)
              have hcw2 := (hSw.cell (p := ⟨pb, 2, none⟩) hplt).trans (HS.out.it.blk.cell (k := 2) rfl)
              have hcw3 := (hSw.cell (p := ⟨pb, 3, none⟩) hplt).trans (HS.out.it.blk.cell (k := 3) rfl)
              go_simp
            simp only [Act.put, List.setIfInBounds_toArray, List.set_cons_zero, List.set_cons_succ]
            refine wpAnyH_take (i := 11) (v := .slice a bs.length c) (by simp only [List.getElem?_toArray, List.getElem?_cons_zero, List.getElem?_cons_succ]; rfl) (by kernel_rfl) (by kernel_rfl) (by kernel_rfl) (fun _ _ _ h => h) (Or.inl ⟨by rfl, fun W hSw => ?_⟩) (by assumption) ?_
            · have hcw := (hSw.cell (p := ⟨w.heap.size + 1, 0, none⟩) hblt).trans (HS.out.box.cell (k := 0) rfl)
              go_simp
            simp only [Act.put, List.setIfInBounds_toArray, List.set_cons_zero, List.set_cons_succ]
            refine wpAnyH_take (i := 12) (v := .int .i64 (pre.length : Int)) (by simp only [List.getElem?_toArray, List.getElem?_cons_zero, List.getElem?_cons_succ]; rfl) (by kernel_rfl) (by kernel_rfl) (by kernel_rfl) (fun _ _ _ h => h) (Or.inl ⟨by rfl, fun W hSw => ?_⟩) (by assumption) ?_
            · have hcw := (hSw.cell (p := ⟨wt.heap.size, 0, none⟩) hnlt).trans (HI.out.n.cell (k := 0) rfl)
              go_simp
            simp only [Act.put, List.setIfInBounds_toArray, List.set_cons_zero, List.set_cons_succ]
            refine wpAnyH_take (i := 13) (v := .int .i64 (K : Int)) (by simp only [List.getElem?_toArray, List.getElem?_cons_zero, List.getElem?_cons_succ]; rfl) (by kernel_rfl) (by kernel_rfl) (by kernel_rfl) (fun _ _ _ h => h) (Or.inl ⟨by rfl, fun W hSw => ?_⟩) (by assumption) ?_
            · clear hSw
              go_simp
            simp only [Act.put, List.setIfInBounds_toArray, List.set_cons_zero, List.set_cons_succ]
            refine wpAnyH_take (i := 14) (v := .slice (cutA a c 0 1) K c) (by simp only [List.getElem?_toArray, List.getElem?_cons_zero, List.getElem?_cons_succ]; rfl) (by kernel_rfl) (by kernel_rfl) (by kernel_rfl) (fun _ _ _ h => h) (Or.inl ⟨by rfl, fun W hSw => ?_⟩) (by assumption) ?_
            · clear hSw
              go_simp
            simp only [Act.put, List.setIfInBounds_toArray, List.set_cons_zero, List.set_cons_succ]
            refine wpAnyH_ready (rs := [15]) (by kernel_rfl) (by simp) ?_
            refine AllReadyH.cons (by simp only [List.getElem?_toArray, List.getElem?_cons_zero, List.getElem?_cons_succ]; rfl) (fun K hK => ?_) AllReadyH.nil
            rw [if_pos (by rfl)]
            go_simp
            go_at_call 14
            refine (HRl.out _ hb3.drew).mono ?_
            rintro e w15 ⟨rfl, hb⟩
            have hb4 := hb3.drew.trans (hb.mono hb3.drew.size)
            dsimp only
            refine hK.out _ _ hb4 (fun _ => ?_)
            clear hK K hb
            refine wpAnyH_take (i := 16) (v := .bool false) (by simp only [List.getElem?_toArray, List.getElem?_cons_zero, List.getElem?_cons_succ]; rfl) (by kernel_rfl) (by kernel_rfl) (by kernel_rfl) (fun _ _ _ h => h) (Or.inl ⟨by rfl, fun W hSw => ?_⟩) (by assumption) ?_
            · clear hSw
              go_simp
            simp only [Act.put, List.setIfInBounds_toArray, List.set_cons_zero, List.set_cons_succ]
            refine wpAnyH_take (i := 17) (v := .bool false) (by simp only [List.getElem?_toArray, List.getElem?_cons_zero, List.getElem?_cons_succ]; rfl) (by kernel_rfl) (by kernel_rfl) (by kernel_rfl) (fun _ _ _ h => h) (Or.inl ⟨by rfl, fun W hSw => ?_⟩) (by assumption) ?_
            · clear hSw
              go_simp
            simp only [Act.put, List.setIfInBounds_toArray, List.set_cons_zero, List.set_cons_succ]
            refine wpAnyH_done (by kernel_rfl) ?_ _
            refine NoOut.normal ?_
            have hcn := (HI.out.n.below hb4 hnlt).cell (k := 0) rfl
            have hzn := (HI.out.n.below hb4 hnlt).frozen 0
            have hTlt := HTt.out.lt
            have hTcW := (hb4.cell (p := ⟨T, 0, none⟩) (Nat.lt_of_lt_of_le hTlt HI.out.low.size)).trans ((HI.out.low.cell (p := ⟨T, 0, none⟩) hTlt).trans (HTt.out.cell (k := 0) rfl))
            have hmc := (HS.out.mny.below hb4 HS.out.mny.lt).cell (k := 0) rfl
            have hmlt := HPt.out.mny.lt
            have hne1 : ¬ wt.heap.size = T := by omega
            have hne3 : ¬ wt.heap.size = w.heap.size + 1 + 1 := by omega
            have HR := hid (HI.out.roundB (((pre.length : Int), X) : Int × Int) (fun _ => false) hb4 (.int .i64 ((pre.length : Int) + 1)) rfl)
            have hpw : IntKind.i64.wrap ((pre.length : Int) + 1) = (pre.length : Int) + 1 := by rw [IntKind.wrap_i64]; omega
            clear hkw hHeld hcut hcutA hb3
            by_cases hmany : many ≤ (pre.length : Int) + 1
            · gi_wp2
              exact ⟨by first | exact HR.out.1 | (rw [hsz]; exact HR.out.1), ITc.exit HR.out.2.1 HR.out.2.2 (HI.out.go rfl) hmany⟩
            · gi_wp2
              exact ⟨by first | exact HR.out.1 | (rw [hsz]; exact HR.out.1), ITc.next HR.out.2.1 HR.out.2.2 (by omega)⟩
          case hrest =>
            rintro D1 xs W hD hF hK
            have hf := hF.one rfl
            rw [preL_length] at hf
            have hS := EaS.low' ItLive.low HPt.out hF.low
            have hTlt := HTt.out.lt
            have hTcW := (hF.low.cell (p := ⟨T, 0, none⟩) hTlt).trans (HTt.out.cell (k := 0) rfl)
            have hcn := hF.n.cell (k := 0) rfl
            have hcw := hS.want.cell (k := 0) rfl
            have hmc := hS.mny.cell (k := 0) rfl
            have HP1t := hid (EaS.low' ItLive.low hS (below_new W (.cells #[.int .i64 1] 3)))
            have HT1t := hid (Blk.new W [.int .i64 1] 3)
            have HK1 := hid (at_low' (below_new W (.cells #[.int .i64 1] 3)) hK)
            have hDlow : w.heap.size + 4 < D1 := by have := HPt.out.res.lt; have := HPt.out.want.lt; have := hlbw; omega
            have HDlow := hid hDlow
            have hTn : (T : Nat) < W.heap.size := Nat.lt_of_lt_of_le hTlt hF.low.size
            clear hS hF hK hD hbW hsz hDlow
            generalize hxl : (xs.length : Int) = m at *
            clear hxl
            go_wp2_with fail
            clear hcn hcw hmc hf hTcW hTlt
            generalize W.heap.size = U at *
            generalize W.alloc (.cells #[.int .i64 1] 3) = wu at *
            rw [rounds_succ]
            have hTc := HT1t.out.cell (k := 0) rfl
            go_wp2_with fail
            clear hTc
            refine (wpIn_wide (n := 1)).1 ?_
            have hbW : Below wu.heap.size wu (wu.alloc (.cells #[.int .i64 0] 3)) := below_new wu _
            have hsz : (wu.alloc (.cells #[.int .i64 0] 3)).heap.size = wu.heap.size + 1 := by simp
            obtain ⟨⟩ : True := trivial
            apply wpIn_rangeStA (gf := 60) (lb := #[.pointer (some ⟨q1, 0, none⟩), .pointer (some ⟨q2, 0, none⟩)]) rfl (enters_of Try.func60 (by kernel_rfl) rfl) (encs := fun x : Int × Int => #[.int .i64 x.1, .int .i64 x.2])
              (prpre1_seq (fun k => k < wu.heap.size) (fun _ => false) wu (wu.alloc (.cells #[.int .i64 0] 3)) (fun _ hk => hk) hbW M C HP1t.out.it.pr q1 q2 b cb bs (by omega) HP1t.out.it.b1 HP1t.out.it.b2 HP1t.out.it.cs) (fun _ => rfl)
              (ITc wu 3 many false) (IXc wu 3 many false 4) (ITc.stays wu _ many false (by omega)) (fun c => IXc.stays wu _ many false 4 c (by omega)) (ITc.start wu _ many false)
              4 (FTc wu 3 many false (preL C bs).length) ITc.fin IXc.fin (fun _ _ h => h)
            case hassign =>
              intro l' x W K hK
              gi_wp2
              exact hK
            case hbody =>
              rintro l' pre ⟨x1, x2⟩ W hI hSp
              obtain ⟨hn1, hn2⟩ := next_of_pre hSp
              rw [preL_length] at hn2
              rw [preL_at C bs hn2] at hn1
              simp only [Option.some.injEq, Prod.mk.injEq] at hn1
              obtain ⟨rfl, rfl⟩ := hn1
              generalize hKK : pre.length + 1 = K at *
              have hS := EaS.low' ItLive.low HP1t.out hI.low
              have HI := hid hI
              have HS := hid hS
              have hnlt := hI.n.lt
              have hwlt := hS.want.lt
              have hplt := hS.it.blk.lt
              have hblt := hS.box.lt
              have hn2I : (pre.length : Int) < (bs.length : Int) := by omega
              have hg1 : decide ((bs.length : Int) ≤ (pre.length : Int)) = false := by simp; omega
              have hkw : IntKind.i64.wrap ((pre.length : Int) + 1) = (K : Int) := by rw [IntKind.wrap_i64]; omega
              have hcut := cut_u8_hi a bs.length c K (by have := HN.out.1; omega)
              have hcutA := cut_u8_hiAt a bs.length c K (by have := HN.out.1; omega)
              have HRl := hid (fun W' (hb : Below W.heap.size W W') => by
                have h := rlits_any A cp C W' (HS.out.it.rf.low hb) (cutA a c 0 1) c (bs.take K) (by rw [List.length_take]; omega) (by
                  have h2 := cutA_cs (HS.out.data.low hb) c 0 1 (by rw [List.length_map]; have := HN.out.1; omega) K
                  rw [Nat.zero_mul, List.drop_zero, ← List.map_take] at h2
                  exact h2)
                rw [List.length_take, Nat.min_eq_left (by omega)] at h
                exact h)
              unfold fourV at HRl
              generalize litsC C (bs.take K) = X at *
              clear hS hSp hn2
              gi_wp2
              have hb3 := Below.refl W.heap.size W
              refine wpIn_region_round_held (fun W' => Below W.heap.size W W') (by kernel_rfl) (by kernel_rfl) hb3.drew (fun hHeld => ?_)
              simp only [List.size_toArray, List.length_cons, List.length_nil, Nat.reduceAdd, Array.replicate_succ, Array.replicate_zero, List.push_toArray, List.nil_append, List.cons_append]
              refine wpAnyH_take (i := 0) (v := .int .i64 (pre.length : Int)) (by simp only [List.getElem?_toArray, List.getElem?_cons_zero]; rfl) (by kernel_rfl) (by kernel_rfl) (by kernel_rfl) (fun _ _ _ h => h) (Or.inl ⟨by rfl, fun W hSw => ?_⟩) (by assumption) ?_
              · clear hSw
                go_simp
              simp only [Act.put, List.setIfInBounds_toArray, List.set_cons_zero, List.set_cons_succ]
              refine wpAnyH_take (i := 1) (v := .int .i64 (pre.length : Int)) (by simp only [List.getElem?_toArray, List.getElem?_cons_zero, List.getElem?_cons_succ]; rfl) (by kernel_rfl) (by kernel_rfl) (by kernel_rfl) (fun _ _ _ h => h) (Or.inl ⟨by rfl, fun W hSw => ?_⟩) (by assumption) ?_
              · have hcw := (hSw.cell (p := ⟨wu.heap.size, 0, none⟩) hnlt).trans (HI.out.n.cell (k := 0) rfl)
                go_simp
              simp only [Act.put, List.setIfInBounds_toArray, List.set_cons_zero, List.set_cons_succ]
              refine wpAnyH_take (i := 2) (v := .bool false) (by simp only [List.getElem?_toArray, List.getElem?_cons_zero, List.getElem?_cons_succ]; rfl) (by kernel_rfl) (by kernel_rfl) (by kernel_rfl) (fun _ _ _ h => h) (Or.inl ⟨by rfl, fun W hSw => ?_⟩) (by assumption) ?_
              · clear hSw
                go_simp
              simp only [Act.put, List.setIfInBounds_toArray, List.set_cons_zero, List.set_cons_succ]
              refine wpAnyH_take (i := 3) (v := .bool false) (by simp only [List.getElem?_toArray, List.getElem?_cons_zero, List.getElem?_cons_succ]; rfl) (by kernel_rfl) (by kernel_rfl) (by kernel_rfl) (fun _ _ _ h => h) (Or.inl ⟨by rfl, fun W hSw => ?_⟩) (by assumption) ?_
              · clear hSw
                go_simp
              simp only [Act.put, List.setIfInBounds_toArray, List.set_cons_zero, List.set_cons_succ]
              refine wpAnyH_take (i := 4) (v := .int .i64 (pre.length : Int)) (by simp only [List.getElem?_toArray, List.getElem?_cons_zero, List.getElem?_cons_succ]; rfl) (by kernel_rfl) (by kernel_rfl) (by kernel_rfl) (fun _ _ _ h => h) (Or.inl ⟨by rfl, fun W hSw => ?_⟩) (by assumption) ?_
              · have hcw := (hSw.cell (p := ⟨wu.heap.size, 0, none⟩) hnlt).trans (HI.out.n.cell (k := 0) rfl)
                go_simp
              simp only [Act.put, List.setIfInBounds_toArray, List.set_cons_zero, List.set_cons_succ]
              refine wpAnyH_take (i := 5) (v := .int .i64 (bs.length : Int)) (by simp only [List.getElem?_toArray, List.getElem?_cons_zero, List.getElem?_cons_succ]; rfl) (by kernel_rfl) (by kernel_rfl) (by kernel_rfl) (fun _ _ _ h => h) (Or.inl ⟨by rfl, fun W hSw => ?_⟩) (by assumption) ?_
              · have hcw := (hSw.cell (p := ⟨lb, 0, none⟩) hwlt).trans (HS.out.want.cell (k := 0) rfl)
                go_simp
              simp only [Act.put, List.setIfInBounds_toArray, List.set_cons_zero, List.set_cons_succ]
              refine wpAnyH_take (i := 6) (v := .bool false) (by simp only [List.getElem?_toArray, List.getElem?_cons_zero, List.getElem?_cons_succ]; rfl) (by kernel_rfl) (by kernel_rfl) (by kernel_rfl) (fun _ _ _ h => h) (Or.inl ⟨by rfl, fun W hSw => ?_⟩) (by assumption) ?_
              · clear hSw
                (go_simp; omega)
              simp only [Act.put, List.setIfInBounds_toArray, List.set_cons_zero, List.set_cons_succ]
              refine wpAnyH_take (i := 7) (v := .bool false) (by simp only [List.getElem?_toArray, List.getElem?_cons_zero, List.getElem?_cons_succ]; rfl) (by kernel_rfl) (by kernel_rfl) (by kernel_rfl) (fun _ _ _ h => h) (Or.inl ⟨by rfl, fun W hSw => ?_⟩) (by assumption) ?_
              · clear hSw
                go_simp
              simp only [Act.put, List.setIfInBounds_toArray, List.set_cons_zero, List.set_cons_succ]
              refine wpAnyH_take (i := 8) (v := .bool false) (by simp only [List.getElem?_toArray, List.getElem?_cons_zero, List.getElem?_cons_succ]; rfl) (by kernel_rfl) (by kernel_rfl) (by kernel_rfl) (fun _ _ _ h => h) (Or.inl ⟨by rfl, fun W hSw => ?_⟩) (by assumption) ?_
              · clear hSw
                go_simp
              simp only [Act.put, List.setIfInBounds_toArray, List.set_cons_zero, List.set_cons_succ]
              refine wpAnyH_take (i := 9) (v := .int .i64 X) (by simp only [List.getElem?_toArray, List.getElem?_cons_zero, List.getElem?_cons_succ]; rfl) (by kernel_rfl) (by kernel_rfl) (by kernel_rfl) (fun _ _ _ h => h) (Or.inl ⟨by rfl, fun W hSw => ?_⟩) (by assumption) ?_
              · clear hSw
                go_simp
              simp only [Act.put, List.setIfInBounds_toArray, List.set_cons_zero, List.set_cons_succ]
              refine wpAnyH_take (i := 10) (v := .agg #[.slice (A 0) (C 0).length (cp 0), .slice (A 1) (C 1).length (cp 1), .slice (A 2) (C 2).length (cp 2), .slice (A 3) (C 3).length (cp 3)]) (by simp only [List.getElem?_toArray, List.getElem?_cons_zero, List.getElem?_cons_succ]; rfl) (by kernel_rfl) (by kernel_rfl) (by kernel_rfl) (fun _ _ _ h => h) (Or.inl ⟨by rfl, fun W hSw => ?_⟩) (by assumption) ?_
              · have hcw0 := (hSw.cell (p := ⟨pb, 0, none⟩) hplt).trans (HS.out.it.blk.cell (k := 0) rfl)
                have hcw1 := (hSw.cell (p := ⟨pb, 1, none⟩) hplt).trans (HS.out.it.blk.cell (k := 1) rfl)
                have hcw2 := (hSw.cell (p := ⟨pb, 2, none⟩) hplt).trans (HS.out.it.blk.cell (k := 2) rfl)
                have hcw3 := (hSw.cell (p := ⟨pb, 3, none⟩) hplt).trans (HS.out.it.blk.cell (k := 3) rfl)
                go_simp
              simp only [Act.put, List.setIfInBounds_toArray, List.set_cons_zero, List.set_cons_succ]
              refine wpAnyH_take (i := 11) (v := .slice a bs.length c) (by simp only [List.getElem?_toArray, List.getElem?_cons_zero, List.getElem?_cons_succ]; rfl) (by kernel_rfl) (by kernel_rfl) (by kernel_rfl) (fun _ _ _ h => h) (Or.inl ⟨by rfl, fun W hSw => ?_⟩) (by assumption) ?_
              · have hcw := (hSw.cell (p := ⟨w.heap.size + 1, 0, none⟩) hblt).trans (HS.out.box.cell (k := 0) rfl)
                go_simp
              simp only [Act.put, List.setIfInBounds_toArray, List.set_cons_zero, List.set_cons_succ]
              refine wpAnyH_take (i := 12) (v := .int .i64 (pre.length : Int)) (by simp only [List.getElem?_toArray, List.getElem?_cons_zero, List.getElem?_cons_succ]; rfl) (by kernel_rfl) (by kernel_rfl) (by kernel_rfl) (fun _ _ _ h => h) (Or.inl ⟨by rfl, fun W hSw => ?_⟩) (by assumption) ?_
              · have hcw := (hSw.cell (p := ⟨wu.heap.size, 0, none⟩) hnlt).trans (HI.out.n.cell (k := 0) rfl)
                go_simp
              simp only [Act.put, List.setIfInBounds_toArray, List.set_cons_zero, List.set_cons_succ]
              refine wpAnyH_take (i := 13) (v := .int .i64 (K : Int)) (by simp only [List.getElem?_toArray, List.getElem?_cons_zero, List.getElem?_cons_succ]; rfl) (by kernel_rfl) (by kernel_rfl) (by kernel_rfl) (fun _ _ _ h => h) (Or.inl ⟨by rfl, fun W hSw => ?_⟩) (by assumption) ?_
              · clear hSw
                go_simp
              simp only [Act.put, List.setIfInBounds_toArray, List.set_cons_zero, List.set_cons_succ]
              refine wpAnyH_take (i := 14) (v := .slice (cutA a c 0 1) K c) (by simp only [List.getElem?_toArray, List.getElem?_cons_zero, List.getElem?_cons_succ]; rfl) (by kernel_rfl) (by kernel_rfl) (by kernel_rfl) (fun _ _ _ h => h) (Or.inl ⟨by rfl, fun W hSw => ?_⟩) (by assumption) ?_
              · clear hSw
                go_simp
              simp only [Act.put, List.setIfInBounds_toArray, List.set_cons_zero, List.set_cons_succ]
              refine wpAnyH_ready (rs := [15]) (by kernel_rfl) (by simp) ?_
              refine AllReadyH.cons (by simp only [List.getElem?_toArray, List.getElem?_cons_zero, List.getElem?_cons_succ]; rfl) (fun K hK => ?_) AllReadyH.nil
              rw [if_pos (by rfl)]
              go_simp
              go_at_call 14
              refine (HRl.out _ hb3.drew).mono ?_
              rintro e w15 ⟨rfl, hb⟩
              have hb4 := hb3.drew.trans (hb.mono hb3.drew.size)
              dsimp only
              refine hK.out _ _ hb4 (fun _ => ?_)
              clear hK K hb
              refine wpAnyH_take (i := 16) (v := .bool false) (by simp only [List.getElem?_toArray, List.getElem?_cons_zero, List.getElem?_cons_succ]; rfl) (by kernel_rfl) (by kernel_rfl) (by kernel_rfl) (fun _ _ _ h => h) (Or.inl ⟨by rfl, fun W hSw => ?_⟩) (by assumption) ?_
              · clear hSw
                go_simp
              simp only [Act.put, List.setIfInBounds_toArray, List.set_cons_zero, List.set_cons_succ]
              refine wpAnyH_take (i := 17) (v := .bool false) (by simp only [List.getElem?_toArray, List.getElem?_cons_zero, List.getElem?_cons_succ]; rfl) (by kernel_rfl) (by kernel_rfl) (by kernel_rfl) (fun _ _ _ h => h) (Or.inl ⟨by rfl, fun W hSw => ?_⟩) (by assumption) ?_
              · clear hSw
                go_simp
              simp only [Act.put, List.setIfInBounds_toArray, List.set_cons_zero, List.set_cons_succ]
              refine wpAnyH_done (by kernel_rfl) ?_ _
              refine NoOut.normal ?_
              have hcn := (HI.out.n.below hb4 hnlt).cell (k := 0) rfl
              have hzn := (HI.out.n.below hb4 hnlt).frozen 0
              have hTlt := HT1t.out.lt
              have hTcW := (hb4.cell (p := ⟨U, 0, none⟩) (Nat.lt_of_lt_of_le hTlt HI.out.low.size)).trans ((HI.out.low.cell (p := ⟨U, 0, none⟩) hTlt).trans (HT1t.out.cell (k := 0) rfl))
              have hmc := (HS.out.mny.below hb4 HS.out.mny.lt).cell (k := 0) rfl
              have hmlt := HP1t.out.mny.lt
              have hne1 : ¬ wu.heap.size = U := by omega
              have hne3 : ¬ wu.heap.size = w.heap.size + 1 + 1 := by omega
              have HR := hid (HI.out.roundB (((pre.length : Int), X) : Int × Int) (fun _ => false) hb4 (.int .i64 ((pre.length : Int) + 1)) rfl)
              have hpw : IntKind.i64.wrap ((pre.length : Int) + 1) = (pre.length : Int) + 1 := by rw [IntKind.wrap_i64]; omega
              clear hkw hHeld hcut hcutA hb3
              gi_wp2
              exact ⟨by first | exact HR.out.1 | (rw [hsz]; exact HR.out.1), ITc.late HR.out.2.1 HR.out.2.2⟩
            case hrest =>
              rintro D2 xs W hD hF hK
              have hf := hF.two rfl
              rw [preL_length] at hf
              have hS := EaS.low' ItLive.low HP1t.out hF.low
              have hTlt := HT1t.out.lt
              have hTcW := (hF.low.cell (p := ⟨U, 0, none⟩) hTlt).trans (HT1t.out.cell (k := 0) rfl)
              have hcn := hF.n.cell (k := 0) rfl
              have hcw := hS.want.cell (k := 0) rfl
              have hmc := hS.mny.cell (k := 0) rfl
              have HP2 := hid (EaS.low' ItLive.low hS (below_new W (.cells #[.int .i64 2] 3)))
              have HT2 := hid (Blk.new W [.int .i64 2] 3)
              have HK2 := hid (at_low' (below_new W (.cells #[.int .i64 2] 3)) hK)
              have HK1b := hid (at_low' (below_new W (.cells #[.int .i64 2] 3)) (at_low' hF.low HK1.out))
              have hDD : D1 < D2 := Nat.lt_of_lt_of_le (Array.getElem?_eq_some_iff.1 HK1.out).1 (by omega)
              have hfi : (xs.length : Int) = (bs.length : Int) := by omega
              have hD1 := HDlow.out
              clear hS hF hK hbW hsz hf
              generalize hxl : (xs.length : Int) = m at *
              clear hxl hD
              go_wp2_with fail
              clear hcn hcw hmc hfi hTcW hTlt
              generalize W.heap.size = V at *
              generalize W.alloc (.cells #[.int .i64 2] 3) = wv at *
              rw [rounds_succ]
              have hTc := HT2.out.cell (k := 0) rfl
              go_wp2_with fail
              refine (HW.out _).mono ?_
              rintro e w40 ⟨rfl, hb40⟩
              have hst40 := EaS.low' ItLive.low HP2.out hb40
              have hr40 := hst40.res.cell (k := 0) rfl
              have hz40 := hst40.res.frozen 0
              have HK2f := hid (at_low' hb40 HK2.out)
              have HK1f := hid (at_low' hb40 HK1b.out)
              have HS40 := hid hst40
              clear hb40 hst40 hTc
              go_wp2
              have hrs := HS40.out.res.set 0 (.bool true)
              have hbs := HS40.out.low.setCell (p := ⟨w.heap.size + 1 + 1 + 1, 0, none⟩) (by simp only; omega) (.bool true)
              have hK2 : (w40.setCell ⟨w.heap.size + 1 + 1 + 1, 0, none⟩ (.bool true)).heap[D2]? = some (.deferred (some [])) := (Below.heap_setCell _ _ _ _ (by dsimp only; omega)).trans HK2f.out
              have hK1 : (w40.setCell ⟨w.heap.size + 1 + 1 + 1, 0, none⟩ (.bool true)).heap[D1]? = some (.deferred (some [])) := (Below.heap_setCell _ _ _ _ (by dsimp only; omega)).trans HK1f.out
              clear HS40 HK2f HK1f hr40 hz40
              generalize w40.setCell ⟨w.heap.size + 1 + 1 + 1, 0, none⟩ (.bool true) = W9 at *
              refine ⟨by simp, .inl ⟨_, _, rfl, run_takeDeferred hK2, ?_⟩⟩
              have hK1b := fun o => (World.putObj_heap_other (w := W9) (r := D2) (o := o) (k := D1) (by omega)).trans hK1
              refine ⟨by simp, .inl ⟨_, _, rfl, run_takeDeferred (hK1b _), ?_⟩⟩
              have k1 : ∀ o o', Blk ((W9.putObj D2 o).putObj D1 o') (w.heap.size + 1 + 1 + 1) [.bool true] 4 := fun o o' => (World.putObj_heap_other (by omega)).trans ((World.putObj_heap_other (by omega)).trans hrs)
              have q1 := fun o o' => (k1 o o').cell (k := 0) rfl
              have hsz9 := hbs.size
              have hb9 := fun o => hbs.grown (grownBy_putObj' W9 D2 o) hsz9 (fun k hk => by cases hk; omega)
              refine ⟨.bool true, by simp [results, Try.results8, go_sem, q1], rfl, (hb9 _).grown (grownBy_putObj' _ _ _) (hb9 _).size (fun k hk => by cases hk; omega)⟩
  · have HBt := hid (prboth_bad A cp C w1 HF1.out hok)
    unfold fourV at HBt
    refine HBt.out.mono ?_
    rintro e w2 ⟨rfl, hb⟩
    have HB2 := hid (HB1.out.trans (hb.mono HB1.out.size))
    have HBo2 := hid (HBo1.out.below hb HBo1.out.lt)
    have HMn2 := hid (HMn1.out.below hb HMn1.out.lt)
    have HR2 := hid (HR1.out.below hb HR1.out.lt)
    clear hb HBt HB1 HBo1 HMn1 HR1 hok
    go_upto_region 6 with fail
    have hb := below_new w2 (.cells #[.slice none 0 0, .slice none 0 0, .slice none 0 0, .slice none 0 0] 29)
    have HB3 := hid (HB2.out.trans (hb.mono HB2.out.size))
    have HBo3 := hid (HBo2.out.below hb HBo2.out.lt)
    have HMn3 := hid (HMn2.out.below hb HMn2.out.lt)
    have HR3 := hid (HR2.out.below hb HR2.out.lt)
    have HX3 := hid (Blk.new w2 [.slice none 0 0, .slice none 0 0, .slice none 0 0, .slice none 0 0] 29)
    clear hb HB2 HBo2 HMn2 HR2
    obtain ⟨pb, hpb⟩ : ∃ pb, w2.heap.size = pb := ⟨_, rfl⟩
    rw [hpb] at HX3 ⊢
    generalize w2.alloc (.cells #[.slice none 0 0, .slice none 0 0, .slice none 0 0, .slice none 0 0] 29) = w3 at *
    clear hpb
    have kb := HBo3.out.cell (k := 0) rfl
    go_upto_region 7 with fail
    clear kb
    have hb := below_new w3 (.cells #[.int .i64 (bs.length : Int)] 3)
    have HB4 := hid (HB3.out.trans (hb.mono HB3.out.size))
    have HBo4 := hid (HBo3.out.below hb HBo3.out.lt)
    have HMn4 := hid (HMn3.out.below hb HMn3.out.lt)
    have HR4 := hid (HR3.out.below hb HR3.out.lt)
    have HX4 := hid (HX3.out.below hb HX3.out.lt)
    have HWn4 := hid (Blk.new w3 [.int .i64 (bs.length : Int)] 3)
    have hlbw : w.heap.size + 1 + 1 + 1 < w3.heap.size := HR3.out.lt
    have hpblb : pb < w3.heap.size := HX3.out.lt
    clear hb HB3 HBo3 HMn3 HR3 HX3
    obtain ⟨lb, hlb⟩ : ∃ lb, w3.heap.size = lb := ⟨_, rfl⟩
    rw [hlb] at HWn4 hlbw hpblb ⊢
    generalize w3.alloc (.cells #[.int .i64 (bs.length : Int)] 3) = w4 at *
    clear hlb
    have y0 := HWn4.out.cell (k := 0) rfl
    have y1 := HWn4.out.frozen 0
    go_upto_region 9 with fail
    clear y0 y1
    have HWn5 := hid (HWn4.out.set 0 (.int .i64 0))
    have HB5 := hid (HB4.out.setCell (p := ⟨lb, 0, none⟩) (by dsimp only; omega) (.int .i64 0))
    have HBo5 := hid (HBo4.out.other (a := ⟨lb, 0, none⟩) (.int .i64 0) (by dsimp only; omega))
    have HMn5 := hid (HMn4.out.other (a := ⟨lb, 0, none⟩) (.int .i64 0) (by dsimp only; omega))
    have HR5 := hid (HR4.out.other (a := ⟨lb, 0, none⟩) (.int .i64 0) (by dsimp only; omega))
    have HX5 := hid (HX4.out.other (a := ⟨lb, 0, none⟩) (.int .i64 0) (by dsimp only; omega))
    clear HWn4 HB4 HBo4 HMn4 HR4 HX4
    generalize w4.setCell ⟨lb, 0, none⟩ (.int .i64 0) = w5 at *
    have kb := (HBo5.out.alloc (.cells #[] 5)).cell (k := 0) rfl
    have HDn := hid (HD.out.low (HB5.out.trans ((below_new w5 (.cells #[] 5)).mono HB5.out.size)))
    go_wp2_with (at_builtin; refine Hid.out ?_)
    refine hid ?_
    refine wpList_appendsK rfl _ _ 24 rfl 5 _ 1 1 Try.underlying24 Try.info_u8 rfl (by decide) (by decide) _ w5.heap.size (.slice (some ⟨w5.heap.size, 0, none⟩) 0 0) 0 bs.length c a [] (bs.map bv) (by simp) ?hu5 rfl rfl HN.out.1 HN.out.2 (by exact HDn.out) (own_emptyK 1 (Nat.le_refl _)) ?hn5 ?hb5 ?hk5
    case hu5 =>
      intro u hu
      obtain ⟨x, _, rfl⟩ := List.mem_map.1 hu
      rfl
    case hn5 => omega
    case hb5 => simp
    case hk5 =>
      intro v' w6 hown hg
      rw [List.nil_append, Nat.zero_add] at hown
      have HB6c := hid ((below_new w5 (.cells #[] 5)).grown hg (by simp) (fun k hk => ((own_emptyK (e := 5) 1 (Nat.le_refl w5.heap.size)).lt k hk).1))
      clear hg kb HDn
      obtain ⟨a6, c6, rfl⟩ := own_slice hown
      obtain ⟨hc6, hn6, hcs6, _⟩ := own_cs hown rfl rfl
      have HOw := hid hown
      have HC6 := hid (And.intro hc6 (And.intro hn6 hcs6))
      clear hown hc6 hn6 hcs6
      go_wp2_with fail
      refine (prprefixes_any w6 (none) a6 c6 bs (by omega) HC6.out.1 HC6.out.2.1 HC6.out.2.2).mono ?_
      rintro e w7 ⟨q1, q2, b, cb, rfl, hq1, hq2, hB1, hB2, hown2, hb⟩
      have hfn := fun W => prfn_nil 60 #[.pointer (some ⟨q1, 0, none⟩), .pointer (some ⟨q2, 0, none⟩)] W
      have HB7c := hid (HB6c.out.trans (hb.mono HB6c.out.size))
      have hOw7 := own_low HOw.out hb
      obtain ⟨hcb, hnb, hcsb, hbaseb⟩ := own_cs hown2 rfl rfl
      obtain ⟨G, hG0, hG1, hG2⟩ : ∃ G, (0 < bs.length → a6 = some ⟨G, 0, none⟩ ∧ OwnQ w7 G bs.length .u8 5) ∧ w5.heap.size ≤ G ∧ (0 < bs.length → G < w6.heap.size) := by
        by_cases h0 : 0 < bs.length
        · obtain ⟨G, e1, e2, e3⟩ := own_q hOw7 rfl rfl h0
          refine ⟨G, fun _ => ⟨e1, e3⟩, e2, fun _ => ?_⟩
          obtain ⟨_, e4, _, e5⟩ := own_q HOw.out rfl rfl h0
          rw [e1] at e4
          cases e4
          obtain ⟨_, _, _, e6⟩ := e5
          exact e6.lt
        · exact ⟨w5.heap.size, fun h => absurd h h0, Nat.le_refl _, fun h => absurd h h0⟩
      have HG := hid hG0
      have HZ := hid (And.intro hG1 hG2)
      have HQ := hid (And.intro hq1 hq2)
      have HB1q := hid hB1
      have HB2q := hid hB2
      have HCb := hid (And.intro hcsb hbaseb)
      clear hown2 hOw7 HOw hG0 hG1 hG2 hq1 hq2 hB1 hB2 hcb hnb hcsb hbaseb hb HB6c
      go_wp2_with fail
      clear hfn
      go_loopw [14] (fun i wr => ∃ k : Nat, k ≤ bs.length ∧ i = .int .i64 (k : Int) ∧ (0 < bs.length → OwnQ wr G bs.length .u8 5) ∧ (wr = w7 ∨ (0 < bs.length ∧ Mid G (G + 1) w7 wr))) (fun i _ => bs.length - (intOf i).toNat)
      case atStart => exact ⟨0, Nat.zero_le _, rfl, fun h => (HG.out h).2, .inl rfl⟩
      case round =>
        obtain ⟨k, hk, rfl, hoq, hmid⟩ := hrel
        by_cases hlt : k < bs.length
        · obtain ⟨ha6, _⟩ := HG.out (by omega)
          subst ha6
          obtain ⟨x, x0, x1, hst⟩ := (hoq (by omega)).at hlt
          have HMid := hid (show 0 < bs.length ∧ Mid G (G + 1) w7 wr from by
            rcases hmid with rfl | h
            · exact ⟨by omega, Mid.refl _ _ _⟩
            · exact h)
          have HSt := hid hst
          have HLt := hid hlt
          have hkI : (k : Int) < (bs.length : Int) := by omega
          have hc6I : (bs.length : Int) ≤ (c6 : Int) := by have := HC6.out.1; omega
          clear hoq hmid hst hlt hk
          go_wp2
          go_roundw
          case rel => exact ⟨k + 1, HLt.out, by go_num, fun _ => HSt.out _, .inr ⟨HMid.out.1, HMid.out.2.set (Nat.le_refl _) (Nat.lt_succ_self _) _⟩⟩
          case measure => have := HLt.out; simp [intOf]; omega
        · obtain rfl : k = bs.length := by omega
          have HMid := hid (show Below w5.heap.size w5 wr ∧ Blk wr q1 [.pointer (none)] 27 ∧ Blk wr q2 [.slice b bs.length cb] 24 ∧ Cs wr b (bs.map bv) from by
            rcases hmid with rfl | ⟨h0, h⟩
            · exact ⟨HB7c.out, HB1q.out, HB2q.out, HCb.out.1⟩
            · have hz2 := HZ.out.2 h0
              have hq := HQ.out
              exact ⟨HB7c.out.trans (h.below.mono HZ.out.1), h.blk HB1q.out (.inr (by omega)), h.blk HB2q.out (.inr (by omega)), Mid.cs h HCb.out.1 (fun x hx _ => .inr (by have := HCb.out.2 x hx; omega))⟩)
          clear hoq hmid hk hlt HG HZ HQ HB1q HB2q HCb HC6 HB7c
          have hb := HMid.out.1
          have HB9 := hid (HB5.out.trans (hb.mono HB5.out.size))
          have HBo9 := hid (HBo5.out.below hb HBo5.out.lt)
          have HMn9 := hid (HMn5.out.below hb HMn5.out.lt)
          have HR9 := hid (HR5.out.below hb HR5.out.lt)
          have HWn9 := hid (HWn5.out.below hb HWn5.out.lt)
          have HPt0 := hid (show EaS w wr a c bs many 0 lb (ItNone q1) from
            ⟨HBo9.out, HMn9.out, HR9.out, HB9.out, HD.out.low HB9.out, HWn9.out, HMid.out.2.1⟩)
          clear hb HMid HB9 HBo9 HMn9 HR9 HWn9 HB5 HBo5 HMn5 HR5 HX5 HWn5
          go_wp2_with fail
          have HPt := hid (EaS.low' ItNone.low HPt0.out (below_new wr (.cells #[.int .i64 0] 3)))
          have HTt := hid (Blk.new wr [.int .i64 0] 3)
          clear HPt0
          generalize wr.heap.size = T at *
          generalize wr.alloc (.cells #[.int .i64 0] 3) = wt at *
          refine wp_loop_rounds 3 ?_
          rw [rounds_succ]
          have hTc := HTt.out.cell (k := 0) rfl
          go_wp2_with fail
          clear hTc
          refine (wpIn_wide (n := 1)).1 ?_
          have hbW : Below wt.heap.size wt (wt.alloc (.cells #[.int .i64 0] 3)) := below_new wt _
          have hsz : (wt.alloc (.cells #[.int .i64 0] 3)).heap.size = wt.heap.size + 1 := by simp
          obtain ⟨⟩ : True := trivial
          apply wpIn_rangeStA (gf := 60) (lb := #[.pointer (some ⟨q1, 0, none⟩), .pointer (some ⟨q2, 0, none⟩)]) rfl (enters_of Try.func60 (by kernel_rfl) rfl) (encs := fun x : Int × Int => #[.int .i64 x.1, .int .i64 x.2])
            (prpre1_none (fun x : Int × Int => #[.int .i64 x.1, .int .i64 x.2]) (fun k => k < wt.heap.size) (fun _ => false) q1 q2 none (wt.alloc (.cells #[.int .i64 0] 3)) (HPt.out.it.below hbW HPt.out.it.lt) (.inl rfl)) (fun _ => rfl)
            (ITc wt 3 many true) (IXc wt 3 many true 4) (ITc.stays wt _ many true (by omega)) (fun c => IXc.stays wt _ many true 4 c (by omega)) (ITc.start wt _ many true)
            4 (FTc wt 3 many true ([] : List (Int × Int)).length) ITc.fin IXc.fin (fun _ _ h => h)
          case hassign =>
            intro l' x W K hK
            gi_wp2
            exact hK
          case hbody =>
            rintro l' pre ⟨x1, x2⟩ W hI hSp
            obtain ⟨hn1, hn2⟩ := next_of_pre hSp
            simp at hn1
          case hrest =>
            rintro D1 xs W hD hF hK
            have hf := hF.one rfl
            have hS := EaS.low' ItNone.low HPt.out hF.low
            have hTlt := HTt.out.lt
            have hTcW := (hF.low.cell (p := ⟨T, 0, none⟩) hTlt).trans (HTt.out.cell (k := 0) rfl)
            have hcn := hF.n.cell (k := 0) rfl
            have hcw := hS.want.cell (k := 0) rfl
            have hmc := hS.mny.cell (k := 0) rfl
            have HP1t := hid (EaS.low' ItNone.low hS (below_new W (.cells #[.int .i64 1] 3)))
            have HT1t := hid (Blk.new W [.int .i64 1] 3)
            have HK1 := hid (at_low' (below_new W (.cells #[.int .i64 1] 3)) hK)
            have hDlow : w.heap.size + 4 < D1 := by have := HPt.out.res.lt; have := HPt.out.want.lt; have := hlbw; omega
            have HDlow := hid hDlow
            have hTn : (T : Nat) < W.heap.size := Nat.lt_of_lt_of_le hTlt hF.low.size
            clear hS hF hK hD hbW hsz hDlow
            generalize hxl : (xs.length : Int) = m at *
            clear hxl
            go_wp2_with fail
            clear hcn hcw hmc hf hTcW hTlt
            generalize W.heap.size = U at *
            generalize W.alloc (.cells #[.int .i64 1] 3) = wu at *
            rw [rounds_succ]
            have hTc := HT1t.out.cell (k := 0) rfl
            go_wp2_with fail
            clear hTc
            refine (wpIn_wide (n := 1)).1 ?_
            have hbW : Below wu.heap.size wu (wu.alloc (.cells #[.int .i64 0] 3)) := below_new wu _
            have hsz : (wu.alloc (.cells #[.int .i64 0] 3)).heap.size = wu.heap.size + 1 := by simp
            obtain ⟨⟩ : True := trivial
            apply wpIn_rangeStA (gf := 60) (lb := #[.pointer (some ⟨q1, 0, none⟩), .pointer (some ⟨q2, 0, none⟩)]) rfl (enters_of Try.func60 (by kernel_rfl) rfl) (encs := fun x : Int × Int => #[.int .i64 x.1, .int .i64 x.2])
              (prpre1_none (fun x : Int × Int => #[.int .i64 x.1, .int .i64 x.2]) (fun k => k < wu.heap.size) (fun _ => false) q1 q2 none (wu.alloc (.cells #[.int .i64 0] 3)) (HP1t.out.it.below hbW HP1t.out.it.lt) (.inl rfl)) (fun _ => rfl)
              (ITc wu 3 many false) (IXc wu 3 many false 4) (ITc.stays wu _ many false (by omega)) (fun c => IXc.stays wu _ many false 4 c (by omega)) (ITc.start wu _ many false)
              4 (FTc wu 3 many false ([] : List (Int × Int)).length) ITc.fin IXc.fin (fun _ _ h => h)
            case hassign =>
              intro l' x W K hK
              gi_wp2
              exact hK
            case hbody =>
              rintro l' pre ⟨x1, x2⟩ W hI hSp
              obtain ⟨hn1, hn2⟩ := next_of_pre hSp
              simp at hn1
            case hrest =>
              rintro D2 xs W hD hF hK
              have hf := hF.two rfl
              rw [List.length_nil] at hf
              have hS := EaS.low' ItNone.low HP1t.out hF.low
              have hTlt := HT1t.out.lt
              have hTcW := (hF.low.cell (p := ⟨U, 0, none⟩) hTlt).trans (HT1t.out.cell (k := 0) rfl)
              have hcn := hF.n.cell (k := 0) rfl
              have hcw := hS.want.cell (k := 0) rfl
              have hmc := hS.mny.cell (k := 0) rfl
              have HP2 := hid (EaS.low' ItNone.low hS (below_new W (.cells #[.int .i64 2] 3)))
              have HT2 := hid (Blk.new W [.int .i64 2] 3)
              have HK2 := hid (at_low' (below_new W (.cells #[.int .i64 2] 3)) hK)
              have HK1b := hid (at_low' (below_new W (.cells #[.int .i64 2] 3)) (at_low' hF.low HK1.out))
              have hDD : D1 < D2 := Nat.lt_of_lt_of_le (Array.getElem?_eq_some_iff.1 HK1.out).1 (by omega)
              have hfi : (xs.length : Int) = (0 : Int) := by omega
              have hD1 := HDlow.out
              clear hS hF hK hbW hsz hf
              generalize hxl : (xs.length : Int) = m at *
              clear hxl hD
              go_wp2_with fail
              clear hcn hcw hmc hfi hTcW hTlt
              generalize W.heap.size = V at *
              generalize W.alloc (.cells #[.int .i64 2] 3) = wv at *
              rw [rounds_succ]
              have hTc := HT2.out.cell (k := 0) rfl
              go_wp2_with fail
              refine (HW.out _).mono ?_
              rintro e w40 ⟨rfl, hb40⟩
              have hst40 := EaS.low' ItNone.low HP2.out hb40
              have hr40 := hst40.res.cell (k := 0) rfl
              have hz40 := hst40.res.frozen 0
              have HK2f := hid (at_low' hb40 HK2.out)
              have HK1f := hid (at_low' hb40 HK1b.out)
              have HS40 := hid hst40
              clear hb40 hst40 hTc
              go_wp2
              have hrs := HS40.out.res.set 0 (.bool true)
              have hbs := HS40.out.low.setCell (p := ⟨w.heap.size + 1 + 1 + 1, 0, none⟩) (by simp only; omega) (.bool true)
              have hK2 : (w40.setCell ⟨w.heap.size + 1 + 1 + 1, 0, none⟩ (.bool true)).heap[D2]? = some (.deferred (some [])) := (Below.heap_setCell _ _ _ _ (by dsimp only; omega)).trans HK2f.out
              have hK1 : (w40.setCell ⟨w.heap.size + 1 + 1 + 1, 0, none⟩ (.bool true)).heap[D1]? = some (.deferred (some [])) := (Below.heap_setCell _ _ _ _ (by dsimp only; omega)).trans HK1f.out
              clear HS40 HK2f HK1f hr40 hz40
              generalize w40.setCell ⟨w.heap.size + 1 + 1 + 1, 0, none⟩ (.bool true) = W9 at *
              refine ⟨by simp, .inl ⟨_, _, rfl, run_takeDeferred hK2, ?_⟩⟩
              have hK1b := fun o => (World.putObj_heap_other (w := W9) (r := D2) (o := o) (k := D1) (by omega)).trans hK1
              refine ⟨by simp, .inl ⟨_, _, rfl, run_takeDeferred (hK1b _), ?_⟩⟩
              have k1 : ∀ o o', Blk ((W9.putObj D2 o).putObj D1 o') (w.heap.size + 1 + 1 + 1) [.bool true] 4 := fun o o' => (World.putObj_heap_other (by omega)).trans ((World.putObj_heap_other (by omega)).trans hrs)
              have q1 := fun o o' => (k1 o o').cell (k := 0) rfl
              have hsz9 := hbs.size
              have hb9 := fun o => hbs.grown (grownBy_putObj' W9 D2 o) hsz9 (fun k hk => by cases hk; omega)
              refine ⟨.bool true, by simp [results, Try.results8, go_sem, q1], rfl, (hb9 _).grown (grownBy_putObj' _ _ _) (hb9 _).size (fun k hk => by cases hk; omega)⟩
end Go.Proofs.Ytolmmfbgljgdcaa
namespace Go.Proofs.Ytolmmfbgljgdcaa.LPriceEach
open Go.ChangeShapes Go.WideShapes Go.ChangeAt Go.RowKit Go.Port

set_option maxRecDepth 100000 in
set_option maxHeartbeats 4000000 in
theorem lifted (os : Os) (started : os.Started) (H : Type) (enc : TypeId × Value → H) :
    ReturnsInHanded {} Try.checked os 8 .any (Rows.priceEachSpec.pre6 enc Try.prog Try.f8 Rows.priceEachRow.domain false) (Rows.priceEachSpec.post enc Try.prog Try.f8 false true false false) := by
  refine returnsInHanded_of_change (C := Try.checked) Try.own started (by kernel_rfl) Try.func8
    (ChangeSpec.witness6 (enc := enc) (C := Try.checked) false ⟨#[], #[.agg #[.slice none 0 0, .slice none 0 0, .slice none 0 0, .slice none 0 0], .slice none 0 0, .int .i64 0], []⟩ 8 (by kernel_rfl) (by kernel_rfl) (by kernel_rfl) (by kernel_rfl)) ?_
  intro W base args ds gs before hval0 hW hcnd _
  have hval : ∀ (j : Nat) t v, Try.f8.params[j]? = some t → args[j]? = some v → Value.okWide Try.prog W .any base t v := hval0
  have hW' := hW
  obtain ⟨p, q, hA0, hV, rfl, hfz, hnd⟩ := hW
  have hA : DataW.TrodAll enc Try.prog W 0 (fun _ => true) true Try.f8.params.toList args.toList ds p := hA0
  rw [Try.params8] at hA hval
  obtain ⟨v0, vs0, d0, ds0, p0, q0, hargs, rfl, rfl, h0, r0⟩ := trodAll_cons hA
  obtain ⟨v1, vs1, d1, ds1, p1, q1, rfl, rfl, rfl, h1, r1⟩ := trodAll_cons r0
  obtain ⟨v2, vs2, d2, ds2, p2, q2, rfl, rfl, rfl, h2, r2⟩ := trodAll_cons r1
  obtain ⟨rfl, rfl, rfl⟩ := trodAll_nil r2
  obtain rfl : args = #[v0, v1, v2] := by cases args; simp_all
  obtain ⟨rfl, rfl⟩ := trodVars_none hV
  obtain ⟨A0, cp0, C0, rfl, hF0, wF0⟩ := open_four (hval 0 23 v0 rfl rfl) h0
  obtain ⟨l1, hl1, wl1⟩ := open_rowV Try.underlying24 Try.underlying5 (by kernel_rfl) (hval 1 24 v1 rfl rfl) h1
  obtain ⟨bs1, hbs1, hn1⟩ := bytes_of wl1
  rw [hbs1, ← hn1] at hl1
  obtain ⟨a2, rfl, rfl, rfl, w2⟩ := open_int Try.underlying3 (hval 2 3 v2 rfl rfl) h2
  clear hA0 hval0
  simp only [List.append_nil] at hW'
  refine (PriceEach_walk W A0 cp0 C0 hF0 v1 bs1 hl1 a2 (bounds_i64 w2)).mono fun e W' ⟨he, hb⟩ => ?_
  subst he
  exact ⟨_, rfl, law_post Try.kids Try.full Try.underlying4 rfl rfl hW' (by rw [Try.params8]; decide) rfl rfl rfl hb⟩

theorem over : Rows.priceEachRow.holds Try.pinned (OpenSpec.ofChange Rows.priceEachSpec) :=
  OpenClaim.holds_of_wide 8 Try.f8 rfl rfl rfl rfl rfl rfl rfl ⟨rfl, rfl, rfl, rfl, rfl⟩ rfl rfl rfl rfl rfl (by kernel_rfl) Try.func8 (by kernel_rfl)
    (of_decide_eq_true (by kernel_rfl)) (by unfold Func.isWrapper; first | (rw [if_pos (by decide +kernel)]; kernel_rfl) | (rw [if_neg (by decide +kernel)]; exact ⟨rfl, rfl⟩))
    (fun os started H enc _ => lifted os started H enc)

/-- The statement. -/
theorem proved : Rows.PriceEachSaid :=
  over
end Go.Proofs.Ytolmmfbgljgdcaa.LPriceEach
