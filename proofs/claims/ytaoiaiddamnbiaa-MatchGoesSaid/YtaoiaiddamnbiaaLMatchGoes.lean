/-
  The law MatchGoes: the iteration over matches, early exit, a second use: for at most 300 bytes, any position and limit, at most 60 candidates, any number of rounds. No condition.
-/
import Derived.Test.YtaoiaiddamnbiaaMatchP
import Derived.Test.YtaoiaiddamnbiaaMatchT
import Derived.Test.YtaoiaiddamnbiaaTurns
import Derived.Deep.CutRange
import Derived.LoopN
import Derived.Shelf.RegionOpen
import Derived.Sort.QuietIn
namespace Go.Port
open Go.RowKit
/-- The law's cells: the number of rounds, its result. -/
structure StM (w W : World) (many : Int) (t3 t4 : TypeId) : Prop where
  b0 : Blk W w.heap.size [.int .i64 many] t3
  b1 : Blk W (w.heap.size + 1) [.bool false] t4
  below : Below w.heap.size w W
theorem StM.low {w W W' : World} {many : Int} {t3 t4 : TypeId} (h : StM w W many t3 t4) (hb : Below W.heap.size W W') : StM w W' many t3 t4 :=
  ⟨h.b0.below hb h.b0.lt, h.b1.below hb h.b1.lt, h.below.trans (hb.mono h.below.size)⟩
/-- What lies while the turns are run: the law's cells, what is wanted, the iterator's box. -/
structure GoM (w W : World) (many : Int) (ml : List Sq) (wb : Nat) (aw : Option Addr) (cw g : Nat) (a5 : Option Addr) (c5 : Nat) (t3 t4 tw tg : TypeId) : Prop where
  st : StM w W many t3 t4
  want : Blk W wb [.slice aw ml.length cw] tw
  wrow : ∀ j u, (ml.flatMap sq2)[j]? = some u → ∃ b off, aw = some ⟨b, off, none⟩ ∧ b < W.heap.size ∧ W.cell? ⟨b, off + j, none⟩ = some u
  box : Blk W g [.slice a5 ml.length c5] tg
  row : ∀ j u, (ml.flatMap sqc)[j]? = some u → ∃ b off, a5 = some ⟨b, off, none⟩ ∧ b < W.heap.size ∧ W.cell? ⟨b, off + j, none⟩ = some u
theorem GoM.low {w W W' : World} {many : Int} {ml : List Sq} {wb : Nat} {aw : Option Addr} {cw g : Nat} {a5 : Option Addr} {c5 : Nat} {t3 t4 tw tg : TypeId} (h : GoM w W many ml wb aw cw g a5 c5 t3 t4 tw tg) (hb : Below W.heap.size W W') : GoM w W' many ml wb aw cw g a5 c5 t3 t4 tw tg :=
  ⟨h.st.low hb, h.want.below hb h.want.lt, at_same h.wrow hb, h.box.below hb h.box.lt, at_same h.row hb⟩
theorem Sl.cells {w : World} {sz n : Nat} {a : Option Addr} {m c : Nat} {v : Value} {cs : List Value} (h : Sl w sz v n cs) (hv : v = .slice a m c) : ∀ j u, cs[j]? = some u → ∃ b off, a = some ⟨b, off, none⟩ ∧ b < w.heap.size ∧ w.cell? ⟨b, off + j, none⟩ = some u := by
  obtain ⟨a', c', e, _, _, _, h5⟩ := h.open
  rw [hv] at e
  cases e
  exact h5
end Go.Port
namespace Go.Proofs.Ytaoiaiddamnbiaa
open Go.RowKit Go.Port

attribute [local go_sem] Oper.semAt_some

theorem Try.info_byte : (Try.prog.info? 5).map (fun i => (i.zero, i.size, i.bytes)) = some (some (.int .u8 0), 1, 1) := by kernel_rfl
theorem Try.info_int : (Try.prog.info? 3).map (fun i => (i.zero, i.size, i.bytes)) = some (some (.int .i64 0), 1, 8) := by kernel_rfl
theorem eq_two (x y : Int) (w : World) : (Op.equalIn 10000 51 (.agg #[.int .i64 x, .int .i64 y]) (.agg #[.int .i64 x, .int .i64 y])).run Try.prog w = .ok true w := by
  have h := Try.underlying51
  have h3 := Try.underlying3
  have hr : List.range' 0 2 = [0, 1] := rfl
  unfold Op.equalIn
  simp [run_underlying h, go_sem, hr, isAgg, run_underlying h3, Result.andThen]
theorem fn_nil (f : Nat) (lb : Array Value) (w : World) : (binOp .eql 49 (.func (.func f) #[] lb) .nilFunc).run Try.prog w = .ok (.bool false) w := by kernel_rfl

set_option maxRecDepth 1000000 in
set_option maxHeartbeats 8000000 in
theorem MatchGoes_walk (w : World) (vb : Value) (bs : List UInt8) (hvb : Rs w 1 vb bs.length (bs.map bv)) (pos : Int) (_ : -9223372036854775808 ≤ pos ∧ pos ≤ 9223372036854775807) (most : Int) (_ : -9223372036854775808 ≤ most ∧ most ≤ 9223372036854775807) (v : Value) (l : List Int) (hv : Rs w 1 v l.length (l.map (Value.int .i64))) (_ : ∀ x ∈ l, -9223372036854775808 ≤ x ∧ x ≤ 9223372036854775807) (many : Int) (_ : -9223372036854775808 ≤ many ∧ many ≤ 9223372036854775807) :
    Calls Try.prog 10 #[vb, .int .i64 pos, .int .i64 most, v, .int .i64 many] w (RetV w (.bool true)) := by
  obtain ⟨_, a, c, rfl, hnc, hcm, hac, hcell⟩ := hv
  obtain ⟨_, ab, cb, rfl, hnb, hbm, hab, hbcell⟩ := hvb
  have HW := hid works_any
  have hS0 : StM w ((w.alloc (.cells #[.int .i64 many] 3)).alloc (.cells #[.bool false] 4)) many 3 4 := by
    refine ⟨(Blk.new w [.int .i64 many] 3).alloc _, ?_, (below_new w _).alloc (by simp) _⟩
    have := Blk.new (w.alloc (.cells #[.int .i64 many] 3)) [.bool false] 4
    rwa [show (w.alloc (.cells #[.int .i64 many] 3)).heap.size = w.heap.size + 1 from by simp] at this
  have HS0 := hid hS0
  have HCb := hid (fun W (hW : Below w.heap.size w W) => at_same (cs := bs.map bv) hbcell hW)
  have HCl := hid (fun W (hW : Below w.heap.size w W) => at_same (cs := l.map iv) hcell hW)
  clear hcell hbcell hS0
  refine (callsIn_wide (n := 1)).1 ?_
  refine callsIn_of_wp_marks Try.func10 rfl trivial ?_ rfl
  simp only [Try.ntmps10, List.size_toArray, List.length_cons, List.length_nil, Nat.reduceAdd, Nat.reduceSub, Array.replicate_succ, Array.replicate_zero, List.push_toArray, List.append_toArray, List.nil_append, List.cons_append]
  refine wpIn_wide.2 ?_
  by_cases h400 : 300 < bs.length ∨ 60 < l.length
  · have hend : ∀ w5, Below ((w.alloc (.cells #[.int .i64 many] 3)).alloc (.cells #[.bool false] 4)).heap.size ((w.alloc (.cells #[.int .i64 many] 3)).alloc (.cells #[.bool false] 4)) w5 → StM w w5 many 3 4 := fun w5 hb => HS0.out.low hb
    have HE := hid hend
    clear hend
    by_cases h4 : 300 < bs.length
    · clear h400
      go_wp2_with fail
      refine (HW.out _).mono ?_
      rintro e w5 ⟨rfl, hb5⟩
      have HS5 := hid (HE.out w5 hb5)
      have hr5 := HS5.out.b1.cell (k := 0) rfl
      have hz5 := HS5.out.b1.frozen 0
      clear hb5
      go_wp2
      exact ⟨.bool true, by simp [results, Try.results10, go_sem, hr5], rfl, HS5.out.below.setCell (Nat.le_succ _) _⟩
    · have h5 : 60 < l.length := by omega
      clear h400
      go_wp2_with fail
      refine (HW.out _).mono ?_
      rintro e w5 ⟨rfl, hb5⟩
      have HS5 := hid (HE.out w5 hb5)
      have hr5 := HS5.out.b1.cell (k := 0) rfl
      have hz5 := HS5.out.b1.frozen 0
      clear hb5
      go_wp2
      exact ⟨.bool true, by simp [results, Try.results10, go_sem, hr5], rfl, HS5.out.below.setCell (Nat.le_succ _) _⟩
  · have h4 : ¬ 300 < bs.length := by omega
    have h5 : ¬ 60 < l.length := by omega
    clear h400
    have HB0 := hid HS0.out.below
    go_wp2_with (at_builtin; refine Hid.out ?_)
    have hz0 : ((w.alloc (.cells #[.int .i64 many] 3)).alloc (.cells #[.bool false] 4)).heap.size = w.heap.size + 1 + 1 := by simp
    generalize ((w.alloc (.cells #[.int .i64 many] 3)).alloc (.cells #[.bool false] 4)) = w0 at *
    have hE1 := own_emptyK (w := w0) (e := 5) (base := w0.heap.size) 1 (Nat.le_refl _)
    rw [hz0] at hE1
    have hE2 : (w0.alloc (.cells #[] 5)).ownsRow w0.heap.size 5 1 (.slice (some ⟨w.heap.size + 1 + 1, 0, none⟩) 0 0) 0 [] := by rw [hz0]; exact hE1
    have HE2 := hid hE2
    have HZ0 := hid hz0
    have hz00 : w.heap.size + 2 ≤ w0.heap.size := by omega
    clear hE1 hE2 hz0
    refine hid ?_
    refine wpList_appendsK rfl _ _ 22 rfl 5 _ 1 1 Try.underlying22 Try.info_byte rfl (by decide) (by decide) _ w0.heap.size _ 0 bs.length cb ab [] (bs.map bv) (by simp) ?hu rfl rfl hnb hab (HCb.out _ (HB0.out.trans ((below_new w0 (.cells #[] 5)).mono HB0.out.size))) (by exact HE2.out) ?hn ?hb ?hk
    case hu =>
      intro u hu
      obtain ⟨x, _, rfl⟩ := List.mem_map.1 hu
      rfl
    case hn => omega
    case hb => simp
    case hk =>
      intro v1 w1 hown1 hg1
      rw [List.nil_append, Nat.zero_add] at hown1
      have hB1 : Below w0.heap.size w0 w1 := (below_new w0 (.cells #[] 5)).grown hg1 (by simp) (fun k hk => (HE2.out.lt k hk).1)
      obtain ⟨ac, cc, rfl, hc1, hc2, hc3, hc4⟩ := (Sl.of_owns hown1).open
      have hbb := fun h => CellBlk.of_own hown1 h rfl
      have HC4 := hid hc4
      have HB1 := hid hB1
      have HBB := hid hbb
      have hz1 := hB1.size
      clear hown1 hg1 hB1 hbb hc4
      go_wp2_with (at_builtin; refine Hid.out ?_)
      refine hid ?_
      refine wpList_appendsK rfl _ _ 26 rfl 3 _ 1 8 Try.underlying26 Try.info_int rfl (by decide) (by decide) _ w1.heap.size _ 0 l.length c a [] (l.map iv) (by simp) ?hu2 rfl rfl hnc hac (HCl.out _ ((HB0.out.trans (HB1.out.mono HB0.out.size)).trans ((below_new w1 (.cells #[] 3)).mono (Nat.le_trans HB0.out.size hz1)))) (by exact own_emptyK 1 (Nat.le_refl _)) ?hn2 ?hb2 ?hk2
      case hu2 =>
        intro u hu
        obtain ⟨x, _, rfl⟩ := List.mem_map.1 hu
        rfl
      case hn2 => omega
      case hb2 => simp
      case hk2 =>
        intro v2 w2 hown2 hg2
        rw [List.nil_append, Nat.zero_add] at hown2
        have hB2 : Below w1.heap.size w1 w2 := (below_new w1 (.cells #[] 3)).grown hg2 (by simp) (fun k hk => ((own_emptyK (e := 3) 1 (Nat.le_refl w1.heap.size)).lt k hk).1)
        obtain ⟨a2, c2, rfl, hd1, hd2, hd3, hd4⟩ := (Sl.of_owns hown2).open
        have hbb2 := fun h => CellBlk.of_own hown2 h rfl
        have hB02 := HB1.out.trans (hB2.mono hz1)
        have HS2 := hid (HS0.out.low hB02)
        have HC4b := hid (fun j u hu => (show ∃ b off, ac = some ⟨b, off, none⟩ ∧ b < w2.heap.size ∧ w2.cell? ⟨b, off + j, none⟩ = some u from by
          obtain ⟨b, off, h1, h2, h3⟩ := HC4.out j u hu
          exact ⟨b, off, h1, Nat.lt_of_lt_of_le h2 hB2.size, (hB2.cell (p := ⟨b, off + j, none⟩) h2).trans h3⟩))
        have HD4 := hid hd4
        have HCell1 := hid (fun h : 0 < bs.length => (show ∃ C, ac = some ⟨C, 0, none⟩ ∧ w0.heap.size ≤ C ∧ CellBlk w2 C bs.length 5 from by
          obtain ⟨C, h1, h2, h3⟩ := HBB.out h
          exact ⟨C, h1, h2, h3.low hB2⟩))
        have HCell2 := hid (fun h : 0 < l.length => (show ∃ C, a2 = some ⟨C, 0, none⟩ ∧ w0.heap.size ≤ C ∧ CellBlk w2 C l.length 3 from by
          obtain ⟨C, h1, h2, h3⟩ := hbb2 h
          exact ⟨C, h1, Nat.le_trans hz1 h2, h3⟩))
        have HRall := hid (rall_any ab a cb c bs pos most l w2 (by omega) (by omega) (HCb.out w2 HS2.out.below) (HCl.out w2 HS2.out.below))
        have hz2 := hB2.size
        clear hown2 hg2 hB2 hB02 hbb2 hd4 HC4 HBB
        go_wp2_with fail
        refine HRall.out.mono ?_
        rintro e w3 ⟨vw, rfl, hwo, hb3⟩
        obtain ⟨aw, cw, rfl⟩ := own_slice hwo
        have hS4 := (HS2.out.low hb3).low (below_new w3 (.cells #[.slice aw (matchesS bs pos most l).length cw] 46))
        have hB24 := hb3.alloc hb3.size (.cells #[.slice aw (matchesS bs pos most l).length cw] 46)
        have HS4 := hid hS4
        have HB24 := hid hB24
        have HWo := hid (hwo.alloc (.cells #[.slice aw (matchesS bs pos most l).length cw] 46))
        have HWb := hid (Blk.new w3 [.slice aw (matchesS bs pos most l).length cw] 46)
        have hz3 : w2.heap.size ≤ w3.heap.size := hb3.size
        have HAll := hid (all_any ac a2 cc c2 bs pos most l (w3.alloc (.cells #[.slice aw (matchesS bs pos most l).length cw] 46)) (by omega) hc1 (by omega)
          (fun j u hu => by
            obtain ⟨b, off, h1, h2, h3⟩ := HC4b.out j u hu
            exact ⟨b, off, h1, Nat.lt_of_lt_of_le h2 hB24.size, (hB24.cell (p := ⟨b, off + j, none⟩) h2).trans h3⟩)
          (fun j u hu => by
            obtain ⟨b, off, h1, h2, h3⟩ := HD4.out j u hu
            exact ⟨b, off, h1, Nat.lt_of_lt_of_le h2 hB24.size, (hB24.cell (p := ⟨b, off + j, none⟩) h2).trans h3⟩))
        have hml := matchesS_length bs pos most l
        clear hwo hb3 hS4 hB24 HRall
        go_wp2_with fail
        refine HAll.out.mono ?_
        rintro e w5 ⟨g, v5, rfl, hg5, hgb, hgo, hb5⟩
        have hfn := fun W => fn_nil 38 #[.pointer (some ⟨g, 0, none⟩)] W
        obtain ⟨a5, c5, rfl⟩ := own_slice hgo
        have hB25 := HB24.out.trans (hb5.mono HB24.out.size)
        have HG := hid (show GoM w w5 many (matchesS bs pos most l) w3.heap.size aw cw g a5 c5 3 4 46 32 from
          ⟨HS4.out.low hb5, HWb.out.below hb5 HWb.out.lt, (Sl.of_owns (own_low HWo.out hb5)).cells rfl, hgb, (Sl.of_owns hgo).cells rfl⟩)
        have HWo5 := hid (own_low HWo.out hb5)
        have HGo := hid hgo
        have HC1 := hid (fun h : 0 < bs.length => (show ∃ C, ac = some ⟨C, 0, none⟩ ∧ w0.heap.size ≤ C ∧ C < w2.heap.size ∧ CellBlk w5 C bs.length 5 from by
          obtain ⟨C, h1, h2, h3⟩ := HCell1.out h
          exact ⟨C, h1, h2, h3.lt, h3.low hB25⟩))
        have HC2 := hid (fun h : 0 < l.length => (show ∃ C, a2 = some ⟨C, 0, none⟩ ∧ w0.heap.size ≤ C ∧ C < w2.heap.size ∧ CellBlk w5 C l.length 3 from by
          obtain ⟨C, h1, h2, h3⟩ := HCell2.out h
          exact ⟨C, h1, h2, h3.lt, h3.low hB25⟩))
        have hg3 : w3.heap.size + 1 ≤ g := by simpa using hg5
        have hw4 : (w3.alloc (.cells #[.slice aw (matchesS bs pos most l).length cw] 46)).heap.size = w3.heap.size + 1 := by simp
        rw [hw4] at HGo
        have hml2 : (matchesS bs pos most l).length ≤ 60 := by omega
        clear hgo hgb hb5 hB25 HAll HCell1 HCell2 HWo HS4 HB24 HWb HC4b HD4 hg5 hw4 hml hc1 hc2 hc3 hd1 hd2 hd3 HE2 HB1 HS2
        generalize matchesS bs pos most l = ml at *
        go_wp2_with fail
        clear hfn
        go_loopw [15] (fun i wr => ∃ k : Nat, k ≤ bs.length ∧ i = .int .i64 k ∧ Mid w0.heap.size w2.heap.size w5 wr ∧ (0 < bs.length → ∃ C, ac = some ⟨C, 0, none⟩ ∧ w0.heap.size ≤ C ∧ C < w2.heap.size ∧ CellBlk wr C bs.length 5) ∧ (0 < l.length → ∃ C, a2 = some ⟨C, 0, none⟩ ∧ w0.heap.size ≤ C ∧ C < w2.heap.size ∧ CellBlk wr C l.length 3)) (fun i _ => bs.length - (intOf i).toNat)
        case atStart => exact ⟨0, Nat.zero_le _, rfl, Mid.refl _ _ _, HC1.out, HC2.out⟩
        case round =>
          obtain ⟨k, hk, rfl, hM, hC1, hC2⟩ := hrel
          by_cases hlt : k < bs.length
          · obtain ⟨C, rfl, h1, h2, h3⟩ := hC1 (by omega)
            obtain ⟨u, hcel, hfz⟩ := h3.at hlt
            have HN := hid (fun u' => And.intro (hM.set (a := ⟨C, k, none⟩) h1 h2 u') (And.intro (fun _ : 0 < bs.length => (⟨C, rfl, h1, h2, h3.set k u'⟩ : ∃ C', some (⟨C, 0, none⟩ : Addr) = some ⟨C', 0, none⟩ ∧ w0.heap.size ≤ C' ∧ C' < w2.heap.size ∧ CellBlk (wr.setCell ⟨C, k, none⟩ u') C' bs.length 5))
              (fun h : 0 < l.length => (show ∃ C', a2 = some ⟨C', 0, none⟩ ∧ w0.heap.size ≤ C' ∧ C' < w2.heap.size ∧ CellBlk (wr.setCell ⟨C, k, none⟩ u') C' l.length 3 from by
                obtain ⟨C', k1, k2, k3, k4⟩ := hC2 h
                exact ⟨C', k1, k2, k3, k4.any C k u'⟩))))
            have hltI : (k : Int) < (bs.length : Int) := by omega
            clear hM hC1 hC2 h3
            go_wp2_with fail
            go_round
            case rel => exact ⟨k + 1, hlt, rfl, (HN.out _).1, (HN.out _).2.1, (HN.out _).2.2⟩
            case measure =>
              simp [intOf]
              omega
          · have hltI : ¬ (k : Int) < (bs.length : Int) := by omega
            have HM := hid hM
            have HC2b := hid hC2
            clear hM hC1 hC2 HC1 HC2
            go_wp2_with fail
            clear hltI hlt hk
            generalize wr = wx at *
            go_loopw [16] (fun i wr => ∃ k : Nat, k ≤ l.length ∧ i = .int .i64 k ∧ Mid w0.heap.size w2.heap.size w5 wr ∧ (0 < l.length → ∃ C, a2 = some ⟨C, 0, none⟩ ∧ w0.heap.size ≤ C ∧ C < w2.heap.size ∧ CellBlk wr C l.length 3)) (fun i _ => l.length - (intOf i).toNat)
            case atStart => exact ⟨0, Nat.zero_le _, rfl, HM.out, HC2b.out⟩
            case round =>
              obtain ⟨k, hk, rfl, hM, hC2⟩ := hrel
              by_cases hlt : k < l.length
              · obtain ⟨C, rfl, h1, h2, h3⟩ := hC2 (by omega)
                obtain ⟨u, hcel, hfz⟩ := h3.at hlt
                have HN := hid (fun u' => And.intro (hM.set (a := ⟨C, k, none⟩) h1 h2 u') (fun _ : 0 < l.length => (⟨C, rfl, h1, h2, h3.set k u'⟩ : ∃ C', some (⟨C, 0, none⟩ : Addr) = some ⟨C', 0, none⟩ ∧ w0.heap.size ≤ C' ∧ C' < w2.heap.size ∧ CellBlk (wr.setCell ⟨C, k, none⟩ u') C' l.length 3)))
                have hltI : (k : Int) < (l.length : Int) := by omega
                clear hM hC2 h3
                go_wp2_with fail
                go_round
                case rel => exact ⟨k + 1, hlt, rfl, (HN.out _).1, (HN.out _).2⟩
                case measure =>
                  simp [intOf]
                  omega
              · have hltI : ¬ (k : Int) < (l.length : Int) := by omega
                have HM2 := hid hM
                clear hM hC2 HC2b HM
                go_wp2_with fail
                clear hltI hlt hk
                have hGr : GoM w wr many ml w3.heap.size aw cw g a5 c5 3 4 46 32 :=
                  ⟨⟨HM2.out.blk HG.out.st.b0 (.inl (by omega)), HM2.out.blk HG.out.st.b1 (.inl (by omega)), HG.out.st.below.trans (HM2.out.below.mono (by omega)) ⟩, HM2.out.blk HG.out.want (.inr (by omega)), (Sl.of_owns (HM2.out.own HWo5.out (Nat.le_refl _))).cells rfl,
                    HM2.out.blk HG.out.box (.inr (by omega)), (Sl.of_owns (HM2.out.own HGo.out (by omega))).cells rfl⟩
                have HPt := hid (hGr.low (below_new wr (.cells #[.int .i64 0] 3)))
                have HTt := hid (Blk.new wr [.int .i64 0] 3)
                clear hGr HM2 HG HWo5 HGo
                generalize wr.heap.size = T at *
                generalize wr.alloc (.cells #[.int .i64 0] 3) = wt at *
                refine wp_loop_rounds 3 ?_
                rw [rounds_succ]
                have hTc := HTt.out.cell (k := 0) rfl
                go_wp2_with fail
                clear hTc
                refine (wpIn_wide (n := 1)).1 ?_
                have hbW : Below wt.heap.size wt (wt.alloc (.cells #[.int .i64 0] 3)) := below_new wt _
                have hsz : (wt.alloc (.cells #[.int .i64 0] 3)).heap.size = wt.heap.size + 1 := by simp
                obtain ⟨⟩ : True := trivial
                apply wpIn_rangeStA (gf := 38) (lb := #[.pointer (some ⟨g, 0, none⟩)]) rfl (enters_of Try.func38 (by kernel_rfl) rfl) (encs := encsG)
                  (all1_seq (fun k => k < wt.heap.size) (fun _ => false) g a5 c5 ml (wt.alloc (.cells #[.int .i64 0] 3)) (by omega) HPt.out.box.lt rfl rfl ((HPt.out.low hbW).box.cell (k := 0) rfl) (fun j u hu => by
                    obtain ⟨b, off, e, hb, hc⟩ := HPt.out.row j u hu
                    exact ⟨b, off, e, hb, (hbW.cell (p := ⟨b, off + j, none⟩) hb).trans hc⟩)) (fun _ => rfl)
                  (ITc wt 3 many true) (IXc wt 3 many true 6) (ITc.stays wt _ many true (by omega)) (fun c => IXc.stays wt _ many true 6 c (by omega)) (ITc.start wt _ many true)
                  6 (FTc wt 3 many true ml.length) ITc.fin IXc.fin (fun _ _ h => h)
                case hassign =>
                  intro l' x W K hK
                  unfold encsG
                  gi_wp2
                  exact hK
                case hbody =>
                  rintro l' pre x W hI hSp
                  obtain ⟨hn1, hn2⟩ := next_of_pre hSp
                  have hS := HPt.out.low hI.low
                  have hcn := hI.n.cell (k := 0) rfl
                  have hzn := hI.n.frozen 0
                  have hcw := hS.want.cell (k := 0) rfl
                  obtain ⟨bl, off, haw, hbl0, hw0⟩ := hS.wrow (pre.length * 2 + 0) (.int .i64 x.off) (by rw [sq2_get hn1 0 (by omega)]; rfl)
                  obtain ⟨bl1, off1, haw1, _, hw1⟩ := hS.wrow (pre.length * 2 + 1) (.int .i64 x.len) (by rw [sq2_get hn1 1 (by omega)]; rfl)
                  rw [haw] at haw1
                  cases haw1
                  rw [haw] at hcw
                  rw [Nat.add_zero] at hw0
                  rw [← Nat.add_assoc] at hw1
                  have HI := hid hI
                  have HS := hid hS
                  have hn2a : (pre.length : Int) < (ml.length : Int) := by omega
                  clear hI hS hSp hn1 haw
                  have heq2 := eq_two x.off x.len
                  have hdec : ¬ ((ml.length : Int) ≤ (pre.length : Int)) := by omega
                  have hdec2 : decide ((ml.length : Int) ≤ (pre.length : Int)) = false := by simpa using hdec
                  have hTlt := HTt.out.lt
                  have hTcW := (HI.out.low.cell (p := ⟨T, 0, none⟩) hTlt).trans (HTt.out.cell (k := 0) rfl)
                  have hmc := HS.out.st.b0.cell (k := 0) rfl
                  have hmlt := HS.out.st.b0.lt
                  have hwlt : w.heap.size < wt.heap.size := HPt.out.st.b0.lt
                  have hne1 : ¬ wt.heap.size = T := by omega
                  have hne3 : ¬ wt.heap.size = w.heap.size := by omega
                  have HR := hid (HI.out.round x (fun _ => false) 0 (.int .i64 ((pre.length : Int) + 1)) rfl)
                  by_cases hmany : many ≤ (pre.length : Int) + 1
                  · gi_wp2
                    exact ⟨HR.out.1, ITc.exit HR.out.2.1 HR.out.2.2 (HI.out.go rfl) hmany⟩
                  · gi_wp2
                    exact ⟨HR.out.1, ITc.next HR.out.2.1 HR.out.2.2 (by omega)⟩
                case hrest =>
                  rintro D1 xs W hD hF hK
                  have hf := hF.one rfl
                  have hS := HPt.out.low hF.low
                  have hTlt := HTt.out.lt
                  have hTcW := (hF.low.cell (p := ⟨T, 0, none⟩) hTlt).trans (HTt.out.cell (k := 0) rfl)
                  have hcn := hF.n.cell (k := 0) rfl
                  have hcw := hS.want.cell (k := 0) rfl
                  have hmc := hS.st.b0.cell (k := 0) rfl
                  have HP1t := hid (hS.low (below_new W (.cells #[.int .i64 1] 3)))
                  have HT1t := hid (Blk.new W [.int .i64 1] 3)
                  have HK1 := hid (at_low' (below_new W (.cells #[.int .i64 1] 3)) hK)
                  have hDlow : w.heap.size + 2 < D1 := by have := HPt.out.st.b1.lt; omega
                  have HDlow := hid hDlow
                  have hTn : (T : Nat) < W.heap.size := Nat.lt_of_lt_of_le hTlt hF.low.size
                  clear hS hF hK hD hbW hsz hDlow
                  generalize hxl : (xs.length : Int) = m at *
                  clear hxl
                  go_wp2_with fail
                  clear hcn hcw hmc hf hTcW hTlt
                  generalize W.heap.size = U at *
                  generalize W.alloc (.cells #[.int .i64 1] 3) = wu at *
                  rw [rounds_succ]
                  have hTc := HT1t.out.cell (k := 0) rfl
                  go_wp2_with fail
                  clear hTc
                  refine (wpIn_wide (n := 1)).1 ?_
                  have hbW : Below wu.heap.size wu (wu.alloc (.cells #[.int .i64 0] 3)) := below_new wu _
                  have hsz : (wu.alloc (.cells #[.int .i64 0] 3)).heap.size = wu.heap.size + 1 := by simp
                  obtain ⟨⟩ : True := trivial
                  apply wpIn_rangeStA (gf := 38) (lb := #[.pointer (some ⟨g, 0, none⟩)]) rfl (enters_of Try.func38 (by kernel_rfl) rfl) (encs := encsG)
                    (all1_seq (fun k => k < wu.heap.size) (fun _ => false) g a5 c5 ml (wu.alloc (.cells #[.int .i64 0] 3)) (by omega) HP1t.out.box.lt rfl rfl ((HP1t.out.low hbW).box.cell (k := 0) rfl) (fun j u hu => by
                      obtain ⟨b, off, e, hb, hc⟩ := HP1t.out.row j u hu
                      exact ⟨b, off, e, hb, (hbW.cell (p := ⟨b, off + j, none⟩) hb).trans hc⟩)) (fun _ => rfl)
                    (ITc wu 3 many false) (IXc wu 3 many false 6) (ITc.stays wu _ many false (by omega)) (fun c => IXc.stays wu _ many false 6 c (by omega)) (ITc.start wu _ many false)
                    6 (FTc wu 3 many false ml.length) ITc.fin IXc.fin (fun _ _ h => h)
                  case hassign =>
                    intro l' x W K hK
                    unfold encsG
                    gi_wp2
                    exact hK
                  case hbody =>
                    rintro l' pre x W hI hSp
                    obtain ⟨hn1, hn2⟩ := next_of_pre hSp
                    have hS := HP1t.out.low hI.low
                    have hcn := hI.n.cell (k := 0) rfl
                    have hzn := hI.n.frozen 0
                    have hcw := hS.want.cell (k := 0) rfl
                    obtain ⟨bl, off, haw, hbl0, hw0⟩ := hS.wrow (pre.length * 2 + 0) (.int .i64 x.off) (by rw [sq2_get hn1 0 (by omega)]; rfl)
                    obtain ⟨bl1, off1, haw1, _, hw1⟩ := hS.wrow (pre.length * 2 + 1) (.int .i64 x.len) (by rw [sq2_get hn1 1 (by omega)]; rfl)
                    rw [haw] at haw1
                    cases haw1
                    rw [haw] at hcw
                    rw [Nat.add_zero] at hw0
                    rw [← Nat.add_assoc] at hw1
                    have HI := hid hI
                    have HS := hid hS
                    have hn2a : (pre.length : Int) < (ml.length : Int) := by omega
                    clear hI hS hSp hn1 haw
                    have heq2 := eq_two x.off x.len
                    have hdec : ¬ ((ml.length : Int) ≤ (pre.length : Int)) := by omega
                    have hdec2 : decide ((ml.length : Int) ≤ (pre.length : Int)) = false := by simpa using hdec
                    have hTlt := HT1t.out.lt
                    have hTcW := (HI.out.low.cell (p := ⟨U, 0, none⟩) hTlt).trans (HT1t.out.cell (k := 0) rfl)
                    have hmc := HS.out.st.b0.cell (k := 0) rfl
                    have hmlt := HS.out.st.b0.lt
                    have hwlt : w.heap.size < wu.heap.size := HP1t.out.st.b0.lt
                    have hne1 : ¬ wu.heap.size = U := by omega
                    have hne3 : ¬ wu.heap.size = w.heap.size := by omega
                    have HR := hid (HI.out.round x (fun _ => false) 0 (.int .i64 ((pre.length : Int) + 1)) rfl)
                    gi_wp2
                    exact ⟨HR.out.1, ITc.late HR.out.2.1 HR.out.2.2⟩
                  case hrest =>
                    rintro D2 xs W hD hF hK
                    have hf := hF.two rfl
                    have hS := HP1t.out.low hF.low
                    have hTlt := HT1t.out.lt
                    have hTcW := (hF.low.cell (p := ⟨U, 0, none⟩) hTlt).trans (HT1t.out.cell (k := 0) rfl)
                    have hcn := hF.n.cell (k := 0) rfl
                    have hcw := hS.want.cell (k := 0) rfl
                    have hmc := hS.st.b0.cell (k := 0) rfl
                    have HP2 := hid (hS.low (below_new W (.cells #[.int .i64 2] 3)))
                    have HT2 := hid (Blk.new W [.int .i64 2] 3)
                    have HK2 := hid (at_low' (below_new W (.cells #[.int .i64 2] 3)) hK)
                    have HK1b := hid (at_low' (below_new W (.cells #[.int .i64 2] 3)) (at_low' hF.low HK1.out))
                    have hDD : D1 < D2 := Nat.lt_of_lt_of_le (Array.getElem?_eq_some_iff.1 HK1.out).1 (by omega)
                    have hfi : (xs.length : Int) = (ml.length : Int) := by omega
                    have hD1 := HDlow.out
                    clear hS hF hK hbW hsz hf
                    generalize hxl : (xs.length : Int) = m at *
                    clear hxl hD
                    go_wp2_with fail
                    clear hcn hcw hmc hfi hTcW hTlt
                    generalize W.heap.size = V at *
                    generalize W.alloc (.cells #[.int .i64 2] 3) = wv at *
                    rw [rounds_succ]
                    have hTc := HT2.out.cell (k := 0) rfl
                    go_wp2_with fail
                    refine (HW.out _).mono ?_
                    rintro e w40 ⟨rfl, hb40⟩
                    have hst40 := (HP2.out.low hb40).st
                    have hr40 := hst40.b1.cell (k := 0) rfl
                    have hz40 := hst40.b1.frozen 0
                    have HK2f := hid (at_low' hb40 HK2.out)
                    have HK1f := hid (at_low' hb40 HK1b.out)
                    have HS40 := hid hst40
                    clear hb40 hst40 hTc
                    go_wp2
                    have hrs := HS40.out.b1.set 0 (.bool true)
                    have hbs := HS40.out.below.setCell (p := ⟨w.heap.size + 1, 0, none⟩) (Nat.le_succ _) (.bool true)
                    have hK2 : (w40.setCell ⟨w.heap.size + 1, 0, none⟩ (.bool true)).heap[D2]? = some (.deferred (some [])) := (Below.heap_setCell _ _ _ _ (by dsimp only; omega)).trans HK2f.out
                    have hK1 : (w40.setCell ⟨w.heap.size + 1, 0, none⟩ (.bool true)).heap[D1]? = some (.deferred (some [])) := (Below.heap_setCell _ _ _ _ (by dsimp only; omega)).trans HK1f.out
                    clear HS40 HK2f HK1f hr40 hz40
                    generalize w40.setCell ⟨w.heap.size + 1, 0, none⟩ (.bool true) = W9 at *
                    refine ⟨by simp, .inl ⟨_, _, rfl, run_takeDeferred hK2, ?_⟩⟩
                    have hK1b := fun o => (World.putObj_heap_other (w := W9) (r := D2) (o := o) (k := D1) (by omega)).trans hK1
                    refine ⟨by simp, .inl ⟨_, _, rfl, run_takeDeferred (hK1b _), ?_⟩⟩
                    have k1 : ∀ o o', Blk ((W9.putObj D2 o).putObj D1 o') (w.heap.size + 1) [.bool true] 4 := fun o o' => (World.putObj_heap_other (by omega)).trans ((World.putObj_heap_other (by omega)).trans hrs)
                    have q1 := fun o o' => (k1 o o').cell (k := 0) rfl
                    have hsz9 := hbs.size
                    have hb9 := fun o => hbs.grown (grownBy_putObj' W9 D2 o) hsz9 (fun k hk => by cases hk; omega)
                    refine ⟨.bool true, by simp [results, Try.results10, go_sem, q1], rfl, (hb9 _).grown (grownBy_putObj' _ _ _) (hb9 _).size (fun k hk => by cases hk; omega)⟩
end Go.Proofs.Ytaoiaiddamnbiaa
namespace Go.Proofs.Ytaoiaiddamnbiaa.LMatchGoes
open Go.ChangeShapes Go.WideShapes Go.ChangeAt Go.RowKit Go.Port

set_option maxRecDepth 100000 in
theorem lifted (os : Os) (started : os.Started) (H : Type) (enc : TypeId × Value → H) :
    ReturnsInHanded {} Try.checked os 10 .any (Rows.matchGoesSpec.pre6 enc Try.prog Try.f10 Rows.matchGoesRow.domain false) (Rows.matchGoesSpec.post enc Try.prog Try.f10 false true false false) := by
  refine returnsInHanded_of_change (C := Try.checked) Try.own started (by kernel_rfl) Try.func10
    (ChangeSpec.witness6 (enc := enc) (C := Try.checked) false ⟨#[], #[.slice none 0 0, .int .i64 0, .int .i64 0, .slice none 0 0, .int .i64 0], []⟩ 8 (by kernel_rfl) (by kernel_rfl) (by kernel_rfl) (by kernel_rfl)) ?_
  intro W base args ds gs before hval0 hW hcnd _
  have hval : ∀ (j : Nat) t v, Try.f10.params[j]? = some t → args[j]? = some v → Value.okWide Try.prog W .any base t v := hval0
  have hW' := hW
  obtain ⟨p, q, hA0, hV, rfl, hfz, hnd⟩ := hW
  have hA : DataW.TrodAll enc Try.prog W 0 (fun _ => true) true Try.f10.params.toList args.toList ds p := hA0
  rw [Try.params10] at hA hval
  obtain ⟨v0, vs0, d0, ds0, p0, q0, hargs, rfl, rfl, h0, r0⟩ := trodAll_cons hA
  obtain ⟨v1, vs1, d1, ds1, p1, q1, rfl, rfl, rfl, h1, r1⟩ := trodAll_cons r0
  obtain ⟨v2, vs2, d2, ds2, p2, q2, rfl, rfl, rfl, h2, r2⟩ := trodAll_cons r1
  obtain ⟨v3, vs3, d3, ds3, p3, q3, rfl, rfl, rfl, h3, r3⟩ := trodAll_cons r2
  obtain ⟨v4, vs4, d4, ds4, p4, q4, rfl, rfl, rfl, h4, r4⟩ := trodAll_cons r3
  obtain ⟨rfl, rfl, rfl⟩ := trodAll_nil r4
  obtain rfl : args = #[v0, v1, v2, v3, v4] := by cases args; simp_all
  obtain ⟨rfl, rfl⟩ := trodVars_none hV
  obtain ⟨l0, hl0, wl0⟩ := open_rowV Try.underlying22 Try.underlying5 (by kernel_rfl) (hval 0 22 v0 rfl rfl) h0
  obtain ⟨bs0, hbs0, hn0⟩ := bytes_of wl0
  rw [hbs0, ← hn0] at hl0
  obtain ⟨a1, rfl, rfl, rfl, w1⟩ := open_int Try.underlying3 (hval 1 3 v1 rfl rfl) h1
  obtain ⟨a2, rfl, rfl, rfl, w2⟩ := open_int Try.underlying3 (hval 2 3 v2 rfl rfl) h2
  obtain ⟨l3, hl3, wl3⟩ := open_rowV Try.underlying26 Try.underlying3 (by kernel_rfl) (hval 3 26 v3 rfl rfl) h3
  obtain ⟨a4, rfl, rfl, rfl, w4⟩ := open_int Try.underlying3 (hval 4 3 v4 rfl rfl) h4
  clear hA0 hval0
  simp only [List.append_nil] at hW'
  refine (MatchGoes_walk W v0 bs0 hl0 a1 (bounds_i64 w1) a2 (bounds_i64 w2) v3 l3 hl3 (fun x hx => bounds_i64 (wl3 x hx)) a4 (bounds_i64 w4)).mono fun e W' ⟨he, hb⟩ => ?_
  subst he
  exact ⟨_, rfl, law_post Try.kids Try.full Try.underlying4 rfl rfl hW' (by rw [Try.params10]; decide) rfl rfl rfl hb⟩

theorem over : Rows.matchGoesRow.holds Try.pinned (OpenSpec.ofChange Rows.matchGoesSpec) :=
  OpenClaim.holds_of_wide 10 Try.f10 rfl rfl rfl rfl rfl rfl rfl ⟨rfl, rfl, rfl, rfl, rfl⟩ rfl rfl rfl rfl rfl (by kernel_rfl) Try.func10 (by kernel_rfl)
    (of_decide_eq_true (by kernel_rfl)) (by unfold Func.isWrapper; first | (rw [if_pos (by decide +kernel)]; kernel_rfl) | (rw [if_neg (by decide +kernel)]; exact ⟨rfl, rfl⟩))
    (fun os started H enc _ => lifted os started H enc)

/-- The statement. -/
theorem proved : Rows.MatchGoesSaid :=
  over
end Go.Proofs.Ytaoiaiddamnbiaa.LMatchGoes
