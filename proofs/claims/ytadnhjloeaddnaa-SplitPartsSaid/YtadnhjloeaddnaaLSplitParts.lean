/-
  The law SplitParts: the iterator over parts, for any byte slice of at most 400 bytes, at most 40 integers, and any number of rounds; it can be left early and used again. No condition.
-/
import Derived.Test.YtadnhjloeaddnaaSplitW
import Derived.Deep.CutRange
import Derived.LoopN
import Derived.Shelf.RegionOpen
namespace Go.Proofs.Ytadnhjloeaddnaa
open Go.RowKit Go.Port

attribute [local go_sem] Oper.semAt_some

set_option maxRecDepth 1000000 in
set_option maxHeartbeats 8000000 in
theorem SplitParts_walk (w : World) (vb : Value) (bs : List UInt8) (hvb : Rs w 1 vb bs.length (bs.map bv)) (v : Value) (l : List Int) (hv : Rs w 1 v l.length (l.map (Value.int .i64))) (_ : ∀ x ∈ l, -9223372036854775808 ≤ x ∧ x ≤ 9223372036854775807) (many : Int) (_ : -9223372036854775808 ≤ many ∧ many ≤ 9223372036854775807) :
    Calls Try.prog 8 #[vb, v, .int .i64 many] w (RetV w (.bool true)) := by
  obtain ⟨_, a, c, rfl, hnc, hcm, hac, hcell⟩ := hv
  obtain ⟨_, ab, cb, rfl, hnb, hbm, hab, hbcell⟩ := hvb
  have HW := hid works_any
  have s1 : (w.alloc (.cells #[.int .i64 many] 3)).heap.size = w.heap.size + 1 := by simp
  have hB0 : Below w.heap.size w ((w.alloc (.cells #[.int .i64 many] 3)).alloc (.cells #[.bool false] 4)) := (below_new w _).alloc (by omega) _
  have hR0 : Blk ((w.alloc (.cells #[.int .i64 many] 3)).alloc (.cells #[.bool false] 4)) (w.heap.size + 1) [.bool false] 4 := by
    have := Blk.new (w.alloc (.cells #[.int .i64 many] 3)) [.bool false] 4
    rwa [s1] at this
  have hM0 : Blk ((w.alloc (.cells #[.int .i64 many] 3)).alloc (.cells #[.bool false] 4)) w.heap.size [.int .i64 many] 3 := (Blk.new w [.int .i64 many] 3).alloc _
  have HS0 := hid (StH.mk hR0 hB0)
  have HM0 := hid hM0
  have HCb := hid (fun W (hW : Below w.heap.size w W) j u (hu : (bs.map bv)[j]? = some u) => (show ∃ b off, ab = some ⟨b, off, none⟩ ∧ b < W.heap.size ∧ W.cell? ⟨b, off + j, none⟩ = some u from by
    obtain ⟨b, off, h1, h2, h3⟩ := hbcell j u hu
    exact ⟨b, off, h1, Nat.lt_of_lt_of_le h2 hW.size, (hW.cell (p := ⟨b, off + j, none⟩) h2).trans h3⟩))
  have HCl := hid (fun W (hW : Below w.heap.size w W) j u (hu : (l.map iv)[j]? = some u) => (show ∃ b off, a = some ⟨b, off, none⟩ ∧ b < W.heap.size ∧ W.cell? ⟨b, off + j, none⟩ = some u from by
    obtain ⟨b, off, h1, h2, h3⟩ := hcell j u hu
    exact ⟨b, off, h1, Nat.lt_of_lt_of_le h2 hW.size, (hW.cell (p := ⟨b, off + j, none⟩) h2).trans h3⟩))
  clear hcell hbcell hB0 hR0 hM0 s1
  refine (callsIn_wide (n := 1)).1 ?_
  refine callsIn_of_wp_marks Try.func8 rfl trivial ?_ rfl
  simp only [Try.ntmps8, List.size_toArray, List.length_cons, List.length_nil, Nat.reduceAdd, Nat.reduceSub, Array.replicate_succ, Array.replicate_zero, List.push_toArray, List.append_toArray, List.nil_append, List.cons_append]
  refine wpIn_wide.2 ?_
  by_cases h400 : 400 < bs.length ∨ 40 < l.length
  · have hend : ∀ w5, Below ((w.alloc (.cells #[.int .i64 many] 3)).alloc (.cells #[.bool false] 4)).heap.size ((w.alloc (.cells #[.int .i64 many] 3)).alloc (.cells #[.bool false] 4)) w5 → StH w w5 4 := fun w5 hb => HS0.out.low hb
    have HE := hid hend
    clear hend
    by_cases h4 : 400 < bs.length
    · clear h400
      go_wp2_with fail
      refine (HW.out _).mono ?_
      rintro e w5 ⟨rfl, hb5⟩
      have HS5 := hid (HE.out w5 hb5)
      have hr5 := HS5.out.res.cell (k := 0) rfl
      have hz5 := HS5.out.res.frozen 0
      clear hb5
      go_wp2
      exact ⟨.bool true, by simp [results, Try.results8, go_sem, hr5], rfl, HS5.out.below.setCell (Nat.le_succ _) _⟩
    · have h5 : 40 < l.length := by omega
      clear h400
      go_wp2_with fail
      refine (HW.out _).mono ?_
      rintro e w5 ⟨rfl, hb5⟩
      have HS5 := hid (HE.out w5 hb5)
      have hr5 := HS5.out.res.cell (k := 0) rfl
      have hz5 := HS5.out.res.frozen 0
      clear hb5
      go_wp2
      exact ⟨.bool true, by simp [results, Try.results8, go_sem, hr5], rfl, HS5.out.below.setCell (Nat.le_succ _) _⟩
  · have h4 : ¬ 400 < bs.length := by omega
    have h5 : ¬ 40 < l.length := by omega
    clear h400
    have HRi := hid (fun W (hW : Below w.heap.size w W) r (hr : riseB (bs.length : Int) 0 l = r) => rise_any (bs.length : Int) r a l.length c l W rfl (by unfold maxLen; omega) (HCl.out W hW) hr)
    have hst : StP w (((w.alloc (.cells #[.int .i64 many] 3)).alloc (.cells #[.bool false] 4)).alloc (.cells #[.slice none 0 0] 49)) many (.slice none 0 0) [] 3 4 49 := by
      refine ⟨HM0.out.alloc _, HS0.out.res.alloc _, ?_, WantAt.nil _ _, HS0.out.below.alloc HS0.out.below.size _⟩
      have := Blk.new ((w.alloc (.cells #[.int .i64 many] 3)).alloc (.cells #[.bool false] 4)) [.slice none 0 0] 49
      rwa [show ((w.alloc (.cells #[.int .i64 many] 3)).alloc (.cells #[.bool false] 4)).heap.size = w.heap.size + 1 + 1 from by simp] at this
    have HSt := hid hst
    have HBt := hid hst.below
    clear hst
    have hwant : riseB (bs.length : Int) 0 l = true → ∀ W, Below w.heap.size w W → w.heap.size + 1 + 1 < W.heap.size → _ := fun hr W hW hX => want_any (w.heap.size + 1 + 1) ab cb bs a c l W (by omega) hnb hab (by omega) hr hX (fun b off e h0 => by
      obtain ⟨b', off', e', hb', _⟩ := HCb.out w (Below.refl _ _) 0 (bv (bs[0]'h0)) (by rw [List.getElem?_map, List.getElem?_eq_getElem h0]; rfl)
      rw [e] at e'
      cases e'
      omega) (HCb.out W hW) (HCl.out W hW)
    have HWant := hid hwant
    have hfull : riseB (bs.length : Int) 0 l = false → fullP bs l = [] := fun hr => by
      unfold fullP
      rw [if_neg (by rw [hr]; simp)]
    have HFull := hid hfull
    clear hwant hfull
    have HR1 := hid (HRi.out _ HBt.out _ rfl)
    have HFl := hid (fullP_small bs l)
    generalize hfd : fullP bs l = full at *
    generalize hrr : riseB (bs.length : Int) 0 l = r at *
    have HRr := hid hrr
    have HFd := hid hfd
    clear hrr hfd
    go_upto_if 28 with (go_at_call 27; refine HR1.out.mono ?_; rintro e w' ⟨rfl, rfl⟩)
    go_cut [] from 28 to 31 (fun wx => ∃ vw, StP w wx many vw full 3 4 49)
    case first =>
      cases r with
      | false =>
        have hf := HFull.out rfl
        subst hf
        go_wp2
        go_meet
        exact ⟨_, HSt.out⟩
      | true =>
        have hWc := HWant.out rfl _ HBt.out (by simp)
        have HWc := hid hWc
        clear hWc
        go_wp2_with fail
        refine HWc.out.mono ?_
        rintro e w3 ⟨a3, n3, c3, rfl, hw3, hb3⟩
        have hb0 := HSt.out.b0.below hb3 HSt.out.b0.lt
        have hb1 := HSt.out.b1.below hb3 HSt.out.b1.lt
        have hb2 := HSt.out.b2.below hb3 HSt.out.b2.lt
        have hbb := HBt.out.trans (hb3.mono HBt.out.size)
        have hc2 := hb2.cell (k := 0) rfl
        have hz2 := hb2.frozen 0
        have HX := hid (StP.mk (full := full) (vw := .slice a3 n3 c3) (hb0.other (a := ⟨w.heap.size + 1 + 1, 0, none⟩) (.slice a3 n3 c3) (by dsimp only; omega)) (hb1.other (a := ⟨w.heap.size + 1 + 1, 0, none⟩) (.slice a3 n3 c3) (by dsimp only; omega)) (hb2.set 0 (.slice a3 n3 c3)) (hw3.set 0 (.slice a3 n3 c3)) (hbb.setCell (p := ⟨w.heap.size + 1 + 1, 0, none⟩) (by dsimp only; omega) (.slice a3 n3 c3)))
        clear hb0 hb1 hb2 hbb hb3 hw3
        go_wp2
        go_meet
        exact ⟨_, HX.out⟩
    case rest =>
      obtain ⟨vw, hSt⟩ := hcut
      obtain ⟨aw, cw, rfl, _, _⟩ := hSt.want
      have HP := hid hSt
      have HBw := hid hSt.below
      have hszA := hSt.below.size
      have hlt2 := hSt.b2.lt
      clear hSt HSt HBt HR1 HWant HFull HRi HS0 HM0
      go_wp2_with (at_builtin; refine Hid.out ?_)
      refine hid ?_
      refine wpList_appends rfl _ _ 25 rfl 5 _ 1 Try.underlying25 Try.info_byte rfl (by decide) _ wc.heap.size _ 0 bs.length cb ab [] (bs.map bv) (by simp) ?hu rfl rfl hnb hab (by exact HCb.out _ (HBw.out.trans ((below_new wc _).mono hszA))) (by exact own_empty (Nat.le_refl _)) ?hn ?hb ?hk
      case hu =>
        intro u hu
        obtain ⟨x, _, rfl⟩ := List.mem_map.1 hu
        rfl
      case hn => omega
      case hb => simp
      case hk =>
        intro v1 w1 hown1 hg1
        rw [List.nil_append, Nat.zero_add] at hown1
        have hB1 : Below wc.heap.size wc w1 := (below_new wc (.cells #[] 5)).grown hg1 (by simp) (fun k hk => ((own_empty (e := 5) (Nat.le_refl wc.heap.size)).lt k hk).1)
        obtain ⟨ac, cc, rfl, hc1, hc2, hc3, hc4⟩ := (Sl.of_owns hown1).open
        have hbb := fun h => byte_blk hown1 h rfl
        have HC4 := hid hc4
        have HB1 := hid hB1
        have HBB := hid hbb
        have hz1 := hB1.size
        clear hown1 hg1 hB1 hbb hc4
        go_wp2_with (at_builtin; refine Hid.out ?_)
        refine hid ?_
        refine wpList_appends rfl _ _ 29 rfl 3 _ 8 Try.underlying29 Try.info_int rfl (by decide) _ w1.heap.size _ 0 l.length c a [] (l.map iv) (by simp) ?hu2 rfl rfl hnc hac (by exact HCl.out _ ((HBw.out.trans (HB1.out.mono hszA)).trans ((below_new w1 _).mono (Nat.le_trans hszA hz1)))) (by exact own_empty (Nat.le_refl _)) ?hn2 ?hb2 ?hk2
        case hu2 =>
          intro u hu
          obtain ⟨x, _, rfl⟩ := List.mem_map.1 hu
          rfl
        case hn2 => omega
        case hb2 => simp
        case hk2 =>
          intro v2 w2 hown2 hg2
          rw [List.nil_append, Nat.zero_add] at hown2
          have hB2 : Below w1.heap.size w1 w2 := (below_new w1 (.cells #[] 3)).grown hg2 (by simp) (fun k hk => ((own_empty (e := 3) (Nat.le_refl w1.heap.size)).lt k hk).1)
          obtain ⟨a2, c2, rfl, hd1, hd2, hd3, hd4⟩ := (Sl.of_owns hown2).open
          have HPa := hid (parts_any ac a2 bs.length cc l.length c2 bs l w2 (by omega) rfl (by omega) rfl hc1 hc3 hd1 hd3 (fun j u hu => by
            obtain ⟨b, off, h1, h2, h3⟩ := HC4.out j u hu
            exact ⟨b, off, h1, Nat.lt_of_lt_of_le h2 hB2.size, (hB2.cell (p := ⟨b, off + j, none⟩) h2).trans h3⟩) hd4)
          have HB2 := hid hB2
          have hz2 := hB2.size
          clear hown2 hg2 hB2 hd1 hd2 hd3 hd4 HC4
          go_wp2_with fail
          refine HPa.out.mono ?_
          rintro e w3 ⟨p5, p6, rfl, hP, hb3⟩
          have hfn := fun W => fn_nil 43 #[.pointer (some ⟨p5, 0, none⟩), .pointer (some ⟨p6, 0, none⟩)] W
          have HB3 := hid (HB1.out.trans ((HB2.out.trans (hb3.mono hz2)).mono hz1))
          have HPA := hid hP
          have HBL := hid (show 0 < bs.length → ∃ C, ac = some ⟨C, 0, none⟩ ∧ C < w2.heap.size ∧ wc.heap.size ≤ C ∧ ByteBlk w3 C bs.length 5 from fun h => by
            obtain ⟨C, h1, h2, h3⟩ := HBB.out h
            have h4 := h3.low HB2.out
            exact ⟨C, h1, h4.lt, h2, h4.low (hb3.mono (Nat.le_refl _))⟩)
          clear hP hb3 HPa
          go_wp2_with fail
          clear hfn
          go_loopw [10] (fun i wr => ∃ k : Nat, k ≤ bs.length ∧ i = .int .i64 k ∧ (0 < bs.length → ∃ C, ac = some ⟨C, 0, none⟩ ∧ C < w2.heap.size ∧ wc.heap.size ≤ C ∧ ByteBlk wr C bs.length 5) ∧ PartsAt w2.heap.size bs l l.length p5 p6 wr ∧ Below wc.heap.size wc wr) (fun i _ => bs.length - (intOf i).toNat)
          case atStart => exact ⟨0, Nat.zero_le _, rfl, HBL.out, HPA.out, HB3.out⟩
          case round =>
            obtain ⟨k, hk, rfl, hC, hP, hB⟩ := hrel
            have HCr := hid hC
            have HPr := hid hP
            have HBr := hid hB
            clear hC hP hB HBL HPA HB3
            by_cases hlt : k < bs.length
            · obtain ⟨C, hac4, hC1, hC2, hC3⟩ := HCr.out (by omega)
              subst hac4
              obtain ⟨cs, hblk, hby⟩ := hC3
              obtain ⟨y, hy⟩ := hby k hlt
              have hcel := hblk.cell hy
              have hfz := hblk.frozen k
              have HN := hid (And.intro ((show ByteBlk wr C bs.length 5 from ⟨cs, hblk, hby⟩).set k (IntKind.u8.wrap (y + 1))) (And.intro (HPr.out.set (a := ⟨C, k, none⟩) hC1 (.int .u8 (IntKind.u8.wrap (y + 1)))) (HBr.out.setCell (p := ⟨C, k, none⟩) hC2 (.int .u8 (IntKind.u8.wrap (y + 1))))))
              have hltI : (k : Int) < (bs.length : Int) := by omega
              clear hblk hby hy
              go_wp2_with fail
              go_round
              case rel => exact ⟨k + 1, hlt, rfl, fun _ => ⟨C, rfl, hC1, hC2, HN.out.1⟩, HN.out.2.1, HN.out.2.2⟩
              case measure =>
                simp [intOf]
                omega
            · have hltI : ¬ (k : Int) < (bs.length : Int) := by omega
              go_wp2_with fail
              clear hltI hlt hk
              have hz2w : w2.heap.size ≤ wr.heap.size := by
                obtain ⟨vo, vp, h1, h2, h3, h4, h5, h6⟩ := HPr.out
                have := h3.lt
                omega
              have HBt := hid (HBr.out.trans ((below_new wr (.cells #[.int .i64 0] 3)).mono HBr.out.size))
              have HPt := hid (HPr.out.low (below_new wr (.cells #[.int .i64 0] 3)))
              have HTt := hid (Blk.new wr [.int .i64 0] 3)
              have hT0 := HBr.out.size
              clear HBr HPr HCr
              generalize wr.heap.size = T at *
              generalize wr.alloc (.cells #[.int .i64 0] 3) = wt at *
              have hmx : Try.prog.follows .mixedOrders = true := by kernel_rfl
              refine wp_loop_rounds 3 ?_
              rw [rounds_succ]
              have hTc := HTt.out.cell (k := 0) rfl
              go_wp2_with fail
              clear hTc
              refine (wpIn_wide (n := 1)).1 ?_
              have hbW : Below wt.heap.size wt ((wt.alloc (.cells #[.int .i64 0] 3)).alloc (.cells #[.int .i64 0] 3)) := (below_new wt _).alloc (by simp) _
              have hsz : ((wt.alloc (.cells #[.int .i64 0] 3)).alloc (.cells #[.int .i64 0] 3)).heap.size = wt.heap.size + 2 := by simp
              have hI0 : IT wt 3 many true [] ((wt.alloc (.cells #[.int .i64 0] 3)).alloc (.cells #[.int .i64 0] 3)) := by
                refine ⟨⟨(Blk.new wt [.int .i64 0] 3).alloc _, ?_, hbW⟩, fun _ => .inl rfl⟩
                have := Blk.new (wt.alloc (.cells #[.int .i64 0] 3)) [.int .i64 0] 3
                rwa [show (wt.alloc (.cells #[.int .i64 0] 3)).heap.size = wt.heap.size + 1 from by simp] at this
              apply wpIn_rangeOne (gf := 43) (lb := #[.pointer (some ⟨p5, 0, none⟩), .pointer (some ⟨p6, 0, none⟩)]) rfl (enters_of Try.func43 (by kernel_rfl) rfl) (encs := encsP) (Ad := AdP) (Kp := KeepsBut (fun k => wt.heap.size ≤ k)) KeepsBut.trans (fun A o o' h ho => KeepsBut.put A _ o o' h ho)
                (parts_seq (fun k => wt.heap.size ≤ k) w2.heap.size p5 p6 l.length bs l wt ((wt.alloc (.cells #[.int .i64 0] 3)).alloc (.cells #[.int .i64 0] 3)) (by omega) rfl (by omega) HPt.out (Tr.of_below hbW) (fun k _ h2 h3 => absurd h2 (Nat.not_lt.2 h3))) (fun _ => rfl)
                (IT wt 3 many true) (IXt wt 3 many true 4) (IT_stays wt _ many true (by rw [hsz]; exact Nat.le_refl _)) (fun c => IXt_stays wt _ many true 4 c (by rw [hsz]; exact Nat.le_refl _)) (AdP_stays _) hI0
                4 (FT wt 3 many true (fullP bs l).length) IT_fin IXt_fin (fun _ _ h => h)
              case hassign =>
                intro l' x W K hK
                unfold encsP
                gi_wp2
                exact hK
              case hbody =>
                rintro l' pre ⟨X, v, b⟩ W ⟨⟨h1, h2, h3⟩, h4⟩ hAd hSp
                have hAd' : Sl W 1 v b.length (b.map bv) := hAd
                obtain ⟨hT, hne, hlen⟩ := prefix_fine hSp
                have hnx := next_part hSp
                rw [HFd.out] at hnx
                obtain ⟨hn1, hn2⟩ := hnx
                have hX : X = (((allP pre).length : Nat) : Int) := hT
                have hlen' : (allP pre ++ b).length ≤ bs.length := hlen
                rw [List.length_append] at hlen'
                obtain ⟨a', c', rfl, hlc, hcm2, hac2, hcells⟩ := Sl.open hAd'
                subst hX
                have hS := HP.out.low ((HBt.out.trans (h3.mono HBt.out.size)))
                obtain ⟨_, _, e, hwl, hwg⟩ := hS.want
                cases e
                obtain ⟨b', off, bd, od, c2', rfl, _, _, _, hbd, hwc, hwi⟩ := hwg _ _ hn1
                dsimp only at hwc hwi
                have hcn := h1.cell (k := 0) rfl
                have hzn := h1.frozen 0
                have hca := h2.cell (k := 0) rfl
                have hza := h2.frozen 0
                have hcw := hS.b2.cell (k := 0) rfl
                have hstr1 := fun n => run_str (P := Try.prog) (W.drewN n) 25 9 5 Try.underlying25 Try.underlying5 Try.underlying9 a' b.length c' b rfl (fun j u hu => by
                  obtain ⟨b2, off2, e1, e2, e3⟩ := hcells j u hu
                  exact ⟨b2, off2, e1, by simpa using e2, by simpa using e3⟩)
                have hstr2 := fun n => run_str (P := Try.prog) (W.drewN n) 25 9 5 Try.underlying25 Try.underlying5 Try.underlying9 (some ⟨bd, od, none⟩) b.length c2' b rfl (fun j u hu => ⟨bd, od, rfl, by simpa using hbd, by simpa using hwi j u hu⟩)
                have hn2a : (pre.length : Int) < (full.length : Int) := by omega
                have H1 := hid h1
                have H2 := hid h2
                have H3 := hid h3
                have H4 := hid h4
                have HS := hid hS
                clear hT hne hlen hAd' hcells h1 h2 h3 h4 hS hwi hwg hAd hSp hn1
                dsimp only
                gi_wp2_with fail
                have hdec : ¬ ((full.length : Int) ≤ (pre.length : Int)) := by omega
                have hdec2 : decide ((full.length : Int) ≤ (pre.length : Int)) = false := by simpa using hdec
                refine wpIn_region_round_lit (by kernel_rfl) (by kernel_rfl) (by kernel_rfl) ?_
                repeat (gi_big_quiet_step (fail))
                refine wpQuietIn_nil ?_
                intro _ hw'
                obtain ⟨nq, hw''⟩ := hw'
                subst hw''
                have hTlt := HTt.out.lt
                have hTcW := (H3.out.cell (p := ⟨T, 0, none⟩) hTlt).trans (HTt.out.cell (k := 0) rfl)
                have hmc := HS.out.b0.cell (k := 0) rfl
                have hmlt := HS.out.b0.lt
                have hwlt : w.heap.size < wt.heap.size := Nat.lt_of_lt_of_le (by omega) (Nat.le_trans hT0 (Nat.le_of_lt hTlt))
                have hne1 : ¬ wt.heap.size = T := by omega
                have hne2 : ¬ wt.heap.size + 1 = T := by omega
                have hne3 : ¬ wt.heap.size = w.heap.size := by omega
                have hne4 : ¬ wt.heap.size + 1 = w.heap.size := by omega
                have HR := hid (ITm_round (And.intro H1.out (And.intro H2.out H3.out)) (mkP (((allP pre).length : Nat) : Int) (.slice a' b.length c') b) nq _ _ rfl rfl)
                have hfl := HFl.out
                have hwr1 : IntKind.i64.wrap (((allP pre).length : Int) + (b.length : Int)) = ((allP pre).length : Int) + (b.length : Int) := by rw [IntKind.wrap_i64]; omega
                have hwr2 : IntKind.i64.wrap ((pre.length : Int) + 1) = (pre.length : Int) + 1 := by rw [IntKind.wrap_i64]; omega
                clear hdec hdec2 hstr1 hstr2 hwc hcw hn2a
                by_cases hmany : many ≤ (pre.length : Int) + 1
                · gi_wp2
                  exact ⟨HR.out.1, IXt_of HR.out.2.2 (H4.out trivial) hmany⟩
                · gi_wp2
                  exact ⟨HR.out.1, HR.out.2.1, IT_of HR.out.2.2 (by omega)⟩
              case hrest =>
                rintro D1 xs W hD hF hK
                rw [HFd.out] at hF
                obtain ⟨⟨h1, h2, h3⟩, hf1, hf2⟩ := hF
                have hf := hf1 rfl
                have hS := HP.out.low ((HBt.out.trans (h3.mono HBt.out.size)))
                obtain ⟨_, _, e, hwl, hwg⟩ := hS.want
                cases e
                have hTlt := HTt.out.lt
                have hTcW := (h3.cell (p := ⟨T, 0, none⟩) hTlt).trans (HTt.out.cell (k := 0) rfl)
                have hcn := h1.cell (k := 0) rfl
                have hcw := hS.b2.cell (k := 0) rfl
                have hmc := hS.b0.cell (k := 0) rfl
                have hBW := HBt.out.trans (h3.mono HBt.out.size)
                have HB1t := hid (hBW.trans ((below_new W (.cells #[.int .i64 1] 3)).mono hBW.size))
                have HP1t := hid ((HPt.out.low h3).low (below_new W (.cells #[.int .i64 1] 3)))
                have HT1t := hid (Blk.new W [.int .i64 1] 3)
                have HK1 := hid (at_low (below_new W (.cells #[.int .i64 1] 3)) hK)
                have hT01 := hBW.size
                have HDlow := hid (show w.heap.size + 2 < D1 from by rw [hsz] at hD; omega)
                clear h1 h2 h3 hf1 hf2 hS hwg hK hD hbW hsz hI0 hBW
                generalize hxl : (xs.length : Int) = m at *
                clear hxl
                go_wp2_with fail
                clear hcn hcw hmc hf hTcW hTlt hT0
                have hT0 := hT01
                clear hT01
                generalize W.heap.size = U at *
                generalize W.alloc (.cells #[.int .i64 1] 3) = wu at *
                rw [rounds_succ]
                have hTc := HT1t.out.cell (k := 0) rfl
                go_wp2_with fail
                clear hTc
                refine (wpIn_wide (n := 1)).1 ?_
                have hbW : Below wu.heap.size wu ((wu.alloc (.cells #[.int .i64 0] 3)).alloc (.cells #[.int .i64 0] 3)) := (below_new wu _).alloc (by simp) _
                have hsz : ((wu.alloc (.cells #[.int .i64 0] 3)).alloc (.cells #[.int .i64 0] 3)).heap.size = wu.heap.size + 2 := by simp
                have hI0 : IT wu 3 many false [] ((wu.alloc (.cells #[.int .i64 0] 3)).alloc (.cells #[.int .i64 0] 3)) := by
                  refine ⟨⟨(Blk.new wu [.int .i64 0] 3).alloc _, ?_, hbW⟩, fun _ => .inl rfl⟩
                  have := Blk.new (wu.alloc (.cells #[.int .i64 0] 3)) [.int .i64 0] 3
                  rwa [show (wu.alloc (.cells #[.int .i64 0] 3)).heap.size = wu.heap.size + 1 from by simp] at this
                apply wpIn_rangeOne (gf := 43) (lb := #[.pointer (some ⟨p5, 0, none⟩), .pointer (some ⟨p6, 0, none⟩)]) rfl (enters_of Try.func43 (by kernel_rfl) rfl) (encs := encsP) (Ad := AdP) (Kp := KeepsBut (fun k => wu.heap.size ≤ k)) KeepsBut.trans (fun A o o' h ho => KeepsBut.put A _ o o' h ho)
                  (parts_seq (fun k => wu.heap.size ≤ k) w2.heap.size p5 p6 l.length bs l wu ((wu.alloc (.cells #[.int .i64 0] 3)).alloc (.cells #[.int .i64 0] 3)) (by omega) rfl (by omega) HP1t.out (Tr.of_below hbW) (fun k _ h2 h3 => absurd h2 (Nat.not_lt.2 h3))) (fun _ => rfl)
                  (IT wu 3 many false) (IXt wu 3 many false 4) (IT_stays wu _ many false (by rw [hsz]; exact Nat.le_refl _)) (fun c => IXt_stays wu _ many false 4 c (by rw [hsz]; exact Nat.le_refl _)) (AdP_stays _) hI0
                  4 (FT wu 3 many false (fullP bs l).length) IT_fin IXt_fin (fun _ _ h => h)
                case hassign =>
                  intro l' x W K hK
                  unfold encsP
                  gi_wp2
                  exact hK
                case hbody =>
                  rintro l' pre ⟨X, v, b⟩ W ⟨⟨h1, h2, h3⟩, h4⟩ hAd hSp
                  have hAd' : Sl W 1 v b.length (b.map bv) := hAd
                  obtain ⟨hT, hne, hlen⟩ := prefix_fine hSp
                  have hnx := next_part hSp
                  rw [HFd.out] at hnx
                  obtain ⟨hn1, hn2⟩ := hnx
                  have hX : X = (((allP pre).length : Nat) : Int) := hT
                  have hlen' : (allP pre ++ b).length ≤ bs.length := hlen
                  rw [List.length_append] at hlen'
                  obtain ⟨a', c', rfl, hlc, hcm2, hac2, hcells⟩ := Sl.open hAd'
                  subst hX
                  have hS := HP.out.low ((HB1t.out.trans (h3.mono HB1t.out.size)))
                  obtain ⟨_, _, e, hwl, hwg⟩ := hS.want
                  cases e
                  obtain ⟨b', off, bd, od, c2', rfl, _, _, _, hbd, hwc, hwi⟩ := hwg _ _ hn1
                  dsimp only at hwc hwi
                  have hcn := h1.cell (k := 0) rfl
                  have hzn := h1.frozen 0
                  have hca := h2.cell (k := 0) rfl
                  have hza := h2.frozen 0
                  have hcw := hS.b2.cell (k := 0) rfl
                  have hstr1 := fun n => run_str (P := Try.prog) (W.drewN n) 25 9 5 Try.underlying25 Try.underlying5 Try.underlying9 a' b.length c' b rfl (fun j u hu => by
                    obtain ⟨b2, off2, e1, e2, e3⟩ := hcells j u hu
                    exact ⟨b2, off2, e1, by simpa using e2, by simpa using e3⟩)
                  have hstr2 := fun n => run_str (P := Try.prog) (W.drewN n) 25 9 5 Try.underlying25 Try.underlying5 Try.underlying9 (some ⟨bd, od, none⟩) b.length c2' b rfl (fun j u hu => ⟨bd, od, rfl, by simpa using hbd, by simpa using hwi j u hu⟩)
                  have hn2a : (pre.length : Int) < (full.length : Int) := by omega
                  have H1 := hid h1
                  have H2 := hid h2
                  have H3 := hid h3
                  have H4 := hid h4
                  have HS := hid hS
                  clear hT hne hlen hAd' hcells h1 h2 h3 h4 hS hwi hwg hAd hSp hn1
                  dsimp only
                  gi_wp2_with fail
                  have hdec : ¬ ((full.length : Int) ≤ (pre.length : Int)) := by omega
                  have hdec2 : decide ((full.length : Int) ≤ (pre.length : Int)) = false := by simpa using hdec
                  refine wpIn_region_round_lit (by kernel_rfl) (by kernel_rfl) (by kernel_rfl) ?_
                  repeat (gi_big_quiet_step (fail))
                  refine wpQuietIn_nil ?_
                  intro _ hw'
                  obtain ⟨nq, hw''⟩ := hw'
                  subst hw''
                  have hTlt := HT1t.out.lt
                  have hTcW := (H3.out.cell (p := ⟨U, 0, none⟩) hTlt).trans (HT1t.out.cell (k := 0) rfl)
                  have hmc := HS.out.b0.cell (k := 0) rfl
                  have hmlt := HS.out.b0.lt
                  have hwlt : w.heap.size < wu.heap.size := Nat.lt_of_lt_of_le (by omega) (Nat.le_trans hT0 (Nat.le_of_lt hTlt))
                  have hne1 : ¬ wu.heap.size = U := by omega
                  have hne2 : ¬ wu.heap.size + 1 = U := by omega
                  have hne3 : ¬ wu.heap.size = w.heap.size := by omega
                  have hne4 : ¬ wu.heap.size + 1 = w.heap.size := by omega
                  have HR := hid (ITm_round (And.intro H1.out (And.intro H2.out H3.out)) (mkP (((allP pre).length : Nat) : Int) (.slice a' b.length c') b) nq _ _ rfl rfl)
                  have hfl := HFl.out
                  have hwr1 : IntKind.i64.wrap (((allP pre).length : Int) + (b.length : Int)) = ((allP pre).length : Int) + (b.length : Int) := by rw [IntKind.wrap_i64]; omega
                  have hwr2 : IntKind.i64.wrap ((pre.length : Int) + 1) = (pre.length : Int) + 1 := by rw [IntKind.wrap_i64]; omega
                  clear hdec hdec2 hstr1 hstr2 hwc hcw hn2a
                  gi_wp2
                  exact ⟨HR.out.1, HR.out.2.1, IT_late HR.out.2.2⟩
                case hrest =>
                  rintro D2 xs W hD hF hK
                  rw [HFd.out] at hF
                  obtain ⟨⟨h1, h2, h3⟩, hf1, hf2⟩ := hF
                  have hf := hf2 rfl
                  have hS := HP.out.low ((HB1t.out.trans (h3.mono HB1t.out.size)))
                  obtain ⟨_, _, e, hwl, hwg⟩ := hS.want
                  cases e
                  have hTlt := HT1t.out.lt
                  have hTcW := (h3.cell (p := ⟨U, 0, none⟩) hTlt).trans (HT1t.out.cell (k := 0) rfl)
                  have hcn := h1.cell (k := 0) rfl
                  have hcw := hS.b2.cell (k := 0) rfl
                  have hmc := hS.b0.cell (k := 0) rfl
                  have hBW := HB1t.out.trans (h3.mono HB1t.out.size)
                  have HBW := hid (hBW.trans ((below_new W (.cells #[.int .i64 2] 3)).mono hBW.size))
                  have HT2 := hid (Blk.new W [.int .i64 2] 3)
                  have HK2 := hid (at_low (below_new W (.cells #[.int .i64 2] 3)) hK)
                  have HK1b := hid (at_low (below_new W (.cells #[.int .i64 2] 3)) (at_low h3 HK1.out))
                  have hDD : D1 < D2 := Nat.lt_of_lt_of_le (Array.getElem?_eq_some_iff.1 HK1.out).1 (by rw [hsz] at hD; omega)
                  have hfi : (xs.length : Int) = (full.length : Int) := by omega
                  have hD1 := HDlow.out
                  clear h1 h2 h3 hf1 hf2 hS hwg hK hbW hsz hI0 hBW hf
                  generalize hxl : (xs.length : Int) = m at *
                  clear hxl hD
                  go_wp2_with fail
                  clear hcn hcw hmc hfi hTcW hTlt hwl
                  generalize W.heap.size = V at *
                  generalize W.alloc (.cells #[.int .i64 2] 3) = wv at *
                  rw [rounds_succ]
                  have hTc := HT2.out.cell (k := 0) rfl
                  go_wp2_with fail
                  refine (HW.out _).mono ?_
                  rintro e w40 ⟨rfl, hb40⟩
                  have hst40 := HP.out.low (HBW.out.trans (hb40.mono HBW.out.size))
                  have hr40 := hst40.b1.cell (k := 0) rfl
                  have hz40 := hst40.b1.frozen 0
                  have HK2f := hid (at_low hb40 HK2.out)
                  have HK1f := hid (at_low hb40 HK1b.out)
                  have HS40 := hid hst40
                  clear hb40 hst40 hTc
                  go_wp2
                  have hrs := HS40.out.b1.set 0 (.bool true)
                  have hbs := HS40.out.below.setCell (p := ⟨w.heap.size + 1, 0, none⟩) (Nat.le_succ _) (.bool true)
                  have hK2 : (w40.setCell ⟨w.heap.size + 1, 0, none⟩ (.bool true)).heap[D2]? = some (.deferred (some [])) := (Below.heap_setCell _ _ _ _ (by dsimp only; omega)).trans HK2f.out
                  have hK1 : (w40.setCell ⟨w.heap.size + 1, 0, none⟩ (.bool true)).heap[D1]? = some (.deferred (some [])) := (Below.heap_setCell _ _ _ _ (by dsimp only; omega)).trans HK1f.out
                  clear HS40 HK2f HK1f hr40 hz40
                  generalize w40.setCell ⟨w.heap.size + 1, 0, none⟩ (.bool true) = W9 at *
                  refine ⟨by simp, .inl ⟨_, _, rfl, run_takeDeferred hK2, ?_⟩⟩
                  have hK1b := fun o => (World.putObj_heap_other (w := W9) (r := D2) (o := o) (k := D1) (by omega)).trans hK1
                  refine ⟨by simp, .inl ⟨_, _, rfl, run_takeDeferred (hK1b _), ?_⟩⟩
                  have k1 : ∀ o o', Blk ((W9.putObj D2 o).putObj D1 o') (w.heap.size + 1) [.bool true] 4 := fun o o' => (World.putObj_heap_other (by omega)).trans ((World.putObj_heap_other (by omega)).trans hrs)
                  have q1 := fun o o' => (k1 o o').cell (k := 0) rfl
                  have hsz9 := hbs.size
                  have hb9 := fun o => hbs.grown (grownBy_putObj' W9 D2 o) hsz9 (fun k hk => by cases hk; omega)
                  refine ⟨.bool true, by simp [results, Try.results8, go_sem, q1], rfl, (hb9 _).grown (grownBy_putObj' _ _ _) (hb9 _).size (fun k hk => by cases hk; omega)⟩
end Go.Proofs.Ytadnhjloeaddnaa
namespace Go.Proofs.Ytadnhjloeaddnaa.LSplitParts
open Go.ChangeShapes Go.WideShapes Go.ChangeAt Go.RowKit Go.Port

set_option maxRecDepth 100000 in
theorem lifted (os : Os) (started : os.Started) (H : Type) (enc : TypeId × Value → H) :
    ReturnsInHanded {} Try.checked os 8 .any (Rows.splitPartsSpec.pre6 enc Try.prog Try.f8 Rows.splitPartsRow.domain false) (Rows.splitPartsSpec.post enc Try.prog Try.f8 false true false false) := by
  refine returnsInHanded_of_change (C := Try.checked) Try.own started (by kernel_rfl) Try.func8
    (ChangeSpec.witness6 (enc := enc) (C := Try.checked) false ⟨#[], #[.slice none 0 0, .slice none 0 0, .int .i64 0], []⟩ 8 (by kernel_rfl) (by kernel_rfl) (by kernel_rfl) (by kernel_rfl)) ?_
  intro W base args ds gs before hval0 hW hcnd _
  have hval : ∀ (j : Nat) t v, Try.f8.params[j]? = some t → args[j]? = some v → Value.okWide Try.prog W .any base t v := hval0
  have hW' := hW
  obtain ⟨p, q, hA0, hV, rfl, hfz, hnd⟩ := hW
  have hA : DataW.TrodAll enc Try.prog W 0 (fun _ => true) true Try.f8.params.toList args.toList ds p := hA0
  rw [Try.params8] at hA hval
  obtain ⟨v0, vs0, d0, ds0, p0, q0, hargs, rfl, rfl, h0, r0⟩ := trodAll_cons hA
  obtain ⟨v1, vs1, d1, ds1, p1, q1, rfl, rfl, rfl, h1, r1⟩ := trodAll_cons r0
  obtain ⟨v2, vs2, d2, ds2, p2, q2, rfl, rfl, rfl, h2, r2⟩ := trodAll_cons r1
  obtain ⟨rfl, rfl, rfl⟩ := trodAll_nil r2
  obtain rfl : args = #[v0, v1, v2] := by cases args; simp_all
  obtain ⟨rfl, rfl⟩ := trodVars_none hV
  obtain ⟨l0, hl0, wl0⟩ := open_rowV Try.underlying25 Try.underlying5 (by kernel_rfl) (hval 0 25 v0 rfl rfl) h0
  obtain ⟨bs0, hbs0, hn0⟩ := bytes_of wl0
  rw [hbs0, ← hn0] at hl0
  obtain ⟨l1, hl1, wl1⟩ := open_rowV Try.underlying29 Try.underlying3 (by kernel_rfl) (hval 1 29 v1 rfl rfl) h1
  obtain ⟨a2, rfl, rfl, rfl, w2⟩ := open_int Try.underlying3 (hval 2 3 v2 rfl rfl) h2
  clear hA0 hval0
  simp only [List.append_nil] at hW'
  refine (SplitParts_walk W v0 bs0 hl0 v1 l1 hl1 (fun x hx => bounds_i64 (wl1 x hx)) a2 (bounds_i64 w2)).mono fun e W' ⟨he, hb⟩ => ?_
  subst he
  exact ⟨_, rfl, law_post Try.kids Try.full Try.underlying4 rfl rfl hW' (by rw [Try.params8]; decide) rfl rfl rfl hb⟩

theorem over : Rows.splitPartsRow.holds Try.pinned (OpenSpec.ofChange Rows.splitPartsSpec) :=
  OpenClaim.holds_of_wide 8 Try.f8 rfl rfl rfl rfl rfl rfl rfl ⟨rfl, rfl, rfl, rfl, rfl⟩ rfl rfl rfl rfl rfl (by kernel_rfl) Try.func8 (by kernel_rfl)
    (of_decide_eq_true (by kernel_rfl)) (by unfold Func.isWrapper; first | (rw [if_pos (by decide +kernel)]; kernel_rfl) | (rw [if_neg (by decide +kernel)]; exact ⟨rfl, rfl⟩))
    (fun os started H enc _ => lifted os started H enc)

/-- The statement. -/
theorem proved : Rows.SplitPartsSaid :=
  over
end Go.Proofs.Ytadnhjloeaddnaa.LSplitParts
