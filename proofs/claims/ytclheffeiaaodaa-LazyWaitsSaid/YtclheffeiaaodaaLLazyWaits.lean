/-
  The law LazyWaits: for at most 150 bytes each of history and data, no match of a lazy plan has a longer one within the lookahead, and none is found behind the last. No condition.
-/
import Derived.Test.YtclheffeiaaodaaLzL
namespace Go.Port
open Go.RowKit
/-- What lies behind the head of a lazy plan. -/
theorem lazyP_wait {bs : List UInt8} {A : Nat} {W D : Int} {far k : Nat} (hA : A ≤ bs.length) (hk : k ≤ (seqs (lazyP bs A W D far)).length) :
    (0 ≤ endOf 0 ((seqs (lazyP bs A W D far)).take k) ∧ endOf 0 ((seqs (lazyP bs A W D far)).take k) ≤ (bs.length : Int) - A) ∧
    (∀ x, (seqs (lazyP bs A W D far))[k]? = some x → 0 ≤ x.lit ∧ 3 ≤ x.len ∧ endOf 0 ((seqs (lazyP bs A W D far)).take k) + x.lit + x.len ≤ (bs.length : Int) - A ∧ findS bs A W D (endOf 0 ((seqs (lazyP bs A W D far)).take k) + x.lit) = some ⟨0, x.len, x.off⟩ ∧
      ∀ j : Int, 1 ≤ j → j < 1 + (far : Int) → ∀ t, findS bs A W D (endOf 0 ((seqs (lazyP bs A W D far)).take k) + x.lit + j) = some t → t.len ≤ x.len) ∧
    (k = (seqs (lazyP bs A W D far)).length → ∀ q, endOf 0 ((seqs (lazyP bs A W D far)).take k) ≤ q → q < (bs.length : Int) - A → findS bs A W D q = none) := by
  obtain ⟨r1, r2, r3⟩ := planS_drop (lazy_ok (B := bs) (A := A) (W := W) (D := D) (far := far)) (lazy_in (B := bs) (A := A) (W := W) (D := D) (far := far)) k 0 (by omega) (by unfold seqs at hk; rwa [List.length_map] at hk)
  have e0 : seqsL (planS (lazyA (findS bs A W D) far) ((bs.length : Int) - A) 0 0) = seqs (lazyP bs A W D far) := rfl
  rw [e0] at r1 r2 r3
  have hL : planS (lazyA (findS bs A W D) far) ((bs.length : Int) - A) 0 0 = lazyP bs A W D far := rfl
  rw [hL] at r1
  generalize endOf 0 ((seqs (lazyP bs A W D far)).take k) = e at *
  have hl := lazy_ok (B := bs) (A := A) (W := W) (D := D) (far := far)
  have hs := planS_scan hl ((bs.length : Int) - A) ((bs.length : Int) - A - e).toNat e e (by omega)
  have hf : ∀ p s, findS bs A W D p = some s → p < (bs.length : Int) - A := fun p s h => by have := findS_form h; omega
  refine ⟨⟨r2, r3⟩, fun x hx => ?_, fun hkl q h1 h2 => ?_⟩
  · cases ho : scanS (lazyA (findS bs A W D) far) ((bs.length : Int) - A) e with
    | none =>
      rw [ho] at hs
      simp only at hs
      rw [hs] at r1
      have := congrArg List.length r1
      rw [List.length_drop] at this
      have h2 := (List.getElem?_eq_some_iff.1 hx).1
      simp [seqs] at this h2
      omega
    | some y =>
      obtain ⟨q, s⟩ := y
      rw [ho] at hs
      simp only at hs
      rw [hs] at r1
      have hx2 : some (⟨q - e, s.len, s.off⟩ : Sq) = some x := by
        rw [← hx]
        have := congrArg List.head? r1
        rw [List.head?_drop] at this
        unfold seqs
        rw [List.getElem?_map, ← this]
        rfl
      simp only [Option.some.injEq] at hx2
      subst hx2
      have h3 := scanS_some hl ((bs.length : Int) - A - e).toNat (by omega) ho
      obtain ⟨h4, h5⟩ := lazyA_takes h3.2.2
      have h6 := findS_form h4
      have he : e + (q - e) = q := by omega
      simp only
      rw [he]
      refine ⟨by omega, by omega, by omega, ?_, fun j j1 j2 t ht => longerGo_none far 1 h5 j j1 j2 t ht⟩
      rw [h4]
      congr 1
      obtain ⟨l0, n0, o0⟩ := s
      simp only at h6 ⊢
      rw [h6.1]
  · cases ho : scanS (lazyA (findS bs A W D) far) ((bs.length : Int) - A) e with
    | none => exact lazy_end hl hf ((bs.length : Int) - A - e).toNat e (by omega) ho q h1 h2
    | some y =>
      obtain ⟨q', s⟩ := y
      rw [ho] at hs
      simp only at hs
      rw [hs] at r1
      have := congrArg List.length r1
      rw [List.length_drop] at this
      unfold seqs at hkl
      rw [List.length_map] at hkl
      simp at this
      omega
end Go.Port
namespace Go.Proofs.Ytclheffeiaaodaa
open Go.RowKit Go.Port

set_option maxRecDepth 100000 in
set_option maxHeartbeats 8000000 in
theorem LazyWaits_walk (w : World) (v1 : Value) (A : List UInt8) (h1 : Rs w 1 v1 A.length (A.map bv)) (v2 : Value) (D : List UInt8) (h2 : Rs w 1 v2 D.length (D.map bv)) (W dep far : Int) :
    Calls Try.prog 6 #[v1, v2, .int .i64 W, .int .i64 dep, .int .i64 far] w (RetV w (.bool true)) := by
  have HW := hid works_any
  have HM := hid (made_any v1 v2 A D W dep w h1 h2)
  obtain ⟨_, a1, k1, rfl, hk1, _, hn1, hcell1⟩ := h1
  obtain ⟨_, a2, k2, rfl, hk2, _, hn2, hcell2⟩ := h2
  have HCa := hid (And.intro (show CellsAt w a1 (A.map bv) from hcell1) (show CellsAt w a2 (D.map bv) from hcell2))
  have HNn := hid (And.intro (And.intro hn1 hn2) (And.intro hk1 hk2))
  clear hcell1 hcell2 hn1 hn2 hk1 hk2
  generalize hbs : A ++ D = bs at *
  go_enter Try.func6, Try.ntmps6
  go_wp2_with fail
  refine HM.out.mono ?_
  rintro e w1 (⟨rfl, hb⟩ | ⟨hm, F, a, c, rfl, hF, hC, hac, hb⟩)
  · have HB := hid (hb.alloc hb.size (.cells #[.slice none 0 0, .int .i64 0, .int .i64 0, .int .i64 0] 25))
    unfold fdv
    clear hb HM hbs
    go_wp2_with (go_at_call 12; refine (HW.out _).mono ?_; rintro e w' ⟨rfl, hb⟩)
    go_ret
    exact ⟨rfl, HB.out.trans (hb.mono HB.out.size)⟩
  · have hk := finderOk_bounds hm.hk
    have hA := hm.hA
    have hD := hm.hD
    have hlen : bs.length = A.length + D.length := by rw [← hbs, List.length_append]
    have HFx1 := hid (hF.low (below_new w1 (.cells (fdc a bs.length c A.length W dep).toArray 25)))
    have HBw1 := hid (hb.alloc hb.size (.cells (fdc a bs.length c A.length W dep).toArray 25))
    unfold fdc at HFx1 HBw1
    unfold fdv
    clear hF hb hC HM hac HCa HNn
    by_cases he : lazyE far = 0
    · obtain ⟨kf, rfl, hkf⟩ := lazyE_ok he
      have hf1 : ¬ (kf : Int) < 0 := by omega
      have hf2 : ¬ 8 < (kf : Int) := by omega
      have hkI : (kf : Int) ≤ 8 := by omega
      have HLk := hid (fun W' hF' => look_any bs A.length W dep F (kf : Int) W' hF')
      rw [lazyL_nat hkf, he] at HLk
      have hwt := fun k hk => @lazyP_wait bs A.length W dep kf k (by omega) hk
      have hln : (seqs (lazyP bs A.length W dep kf)).length ≤ 400 := by have := lazyP_length bs A.length W dep kf; unfold seqs; rw [List.length_map]; omega
      have hsz : (bs.length : Int) - (A.length : Int) = (D.length : Int) := by omega
      have HFi := hid (fun W' q hF' => cfind_any bs A.length W dep F q W' hF')
      unfold sqv at HFi
      rw [hsz] at hwt
      generalize seqs (lazyP bs A.length W dep kf) = L at *
      generalize findS bs A.length W dep = find at *
      have HWt := hid hwt
      have hDI : (D.length : Int) ≤ 150 := hD
      clear hm hk hA hD hlen he hbs hwt hsz
      go_wp2_with fail
      refine (HLk.out _ HFx1.out).mono ?_
      rintro e w2 ⟨v, rfl, hown, hb⟩
      obtain ⟨b2, c2, rfl⟩ := own_slice hown
      have HP2 := hid ((Sl.of_owns hown).cells' rfl)
      have HBw2 := hid (HBw1.out.trans (hb.mono HBw1.out.size))
      have HFx2 := hid (HFx1.out.low hb)
      clear hown hb HBw1 HFx1
      have hlnI : (L.length : Int) ≤ 400 := by omega
      clear HLk
      go_wp2_with (first | (go_at_call 16; refine (num_any _ _).mono ?_; rintro e w' ⟨rfl, rfl⟩))
      clear hf1 hf2
      go_loopw [16, 17] (fun t i wr => ∃ j : Nat, j ≤ L.length ∧ i = .int .i64 (j : Int) ∧ t = .int .i64 (endOf 0 (L.take j)) ∧ Below w2.heap.size w2 wr) (fun _ i _ => L.length - (intOf i).toNat)
      case atStart => exact ⟨0, Nat.zero_le _, rfl, rfl, Below.refl _ _⟩
      case round =>
        obtain ⟨j, hj, rfl, rfl, hbr⟩ := hrel
        have HBr := hid hbr
        obtain ⟨⟨g0, g1⟩, g2, g3⟩ := HWt.out j hj
        by_cases hjl : j < L.length
        · obtain ⟨x, hx⟩ : ∃ x, L[j]? = some x := ⟨L[j], by simp [hjl]⟩
          obtain ⟨bl, off, rfl, hbl, y0⟩ := HP2.out (j * 3 + 0) (.int .i64 x.lit) (by rw [sqc_get hx 0 (by omega)]; rfl)
          obtain ⟨_, _, e1, _, y1⟩ := HP2.out (j * 3 + 1) (.int .i64 x.len) (by rw [sqc_get hx 1 (by omega)]; rfl)
          cases e1
          obtain ⟨_, _, e1, _, y2⟩ := HP2.out (j * 3 + 2) (.int .i64 x.off) (by rw [sqc_get hx 2 (by omega)]; rfl)
          cases e1
          rw [Nat.add_zero] at y0
          rw [← Nat.add_assoc] at y1 y2
          have HY := hid (fun W' (hW' : Below wr.heap.size wr W') => And.intro ((hW'.cell (p := ⟨bl, off + j * 3 + 1, none⟩) (Nat.lt_of_lt_of_le hbl hbr.size)).trans ((hbr.cell (p := ⟨bl, off + j * 3 + 1, none⟩) hbl).trans y1)) ((hW'.cell (p := ⟨bl, off + j * 3 + 2, none⟩) (Nat.lt_of_lt_of_le hbl hbr.size)).trans ((hbr.cell (p := ⟨bl, off + j * 3 + 2, none⟩) hbl).trans y2)))
          replace y0 := (hbr.cell (p := ⟨bl, off + j * 3, none⟩) hbl).trans y0
          have hst : L.take (j + 1) = L.take j ++ [x] := take_next hx
          have hen : endOf 0 (L.take (j + 1)) = endOf 0 (L.take j) + x.lit + x.len := by rw [hst, endOf_snoc]
          obtain ⟨x1, x2, x3, x4, x5⟩ := g2 x hx
          obtain ⟨lit, len, xo⟩ := x
          dsimp only at x1 x2 x3 x4 x5 hen y0 HY
          have HEn := hid hen
          have HFw := hid x5
          generalize endOf 0 (L.take j) = at0 at *
          have ht1 : ¬ lit < 0 := by omega
          have ht2 : ¬ (D.length : Int) - at0 < lit := by omega
          have hw1 : IntKind.i64.wrap ((D.length : Int) - at0) = (D.length : Int) - at0 := by rw [IntKind.wrap_i64]; omega
          have hw2 : IntKind.i64.wrap (at0 + lit) = at0 + lit := by rw [IntKind.wrap_i64]; omega
          have HCall := hid (HFi.out wr (at0 + lit) (HFx2.out.low hbr))
          rw [x4] at HCall
          dsimp only [Option.getD, Option.isSome] at HCall
          have HIn := hid (show 0 ≤ at0 + lit ∧ at0 + lit + len ≤ (D.length : Int) ∧ 3 ≤ len from ⟨by omega, x3, x2⟩)
          have HJ := hid hjl
          have hjI : (j : Int) < (L.length : Int) := by omega
          clear hst hen g0 g1 g2 g3 x1 x2 x3 x4 x5 y1 y2 hbr hx hj hjl
          go_wp2_with fail
          refine HCall.out.mono ?_
          rintro e w5 ⟨rfl, hb5⟩
          have HB5 := hid (HBr.out.trans ((hb5.alloc hb5.size (.cells #[.int .i64 0, .int .i64 len, .int .i64 xo] 49)).mono HBr.out.size))
          have HY5 := hid (HY.out _ (hb5.alloc hb5.size (.cells #[.int .i64 0, .int .i64 len, .int .i64 xo] 49)))
          have HX5 := hid (Blk.new w5 [.int .i64 0, .int .i64 len, .int .i64 xo] 49)
          clear hb5 HCall HY y0 ht1 ht2 hw1 hw2
          go_upto_region 15 with fail
          generalize w5.alloc (.cells #[.int .i64 0, .int .i64 len, .int .i64 xo] 49) = w6 at *
          generalize w5.heap.size = G at *
          obtain ⟨y1, y2⟩ := HY5.out
          have z1 := HX5.out.cell (k := 1) rfl
          have z2 := HX5.out.cell (k := 2) rfl
          go_wp2_with fail
          go_quiet (fail)
          have HB6 := hid (below_drewN HB5.out nq)
          have HX6 : Hid (Blk (w6.drewN nq) G [.int .i64 0, .int .i64 len, .int .i64 xo] 49) := HX5
          clear y1 y2 z1 z2 HY5 HX5 HB5
          generalize w6.drewN nq = w7 at *
          go_wp2_with fail
          go_loopw [20] (fun i wr => ∃ k : Nat, 1 ≤ k ∧ k ≤ kf + 1 ∧ i = .int .i64 (k : Int) ∧ Blk wr G [.int .i64 0, .int .i64 len, .int .i64 xo] 49 ∧ Below w2.heap.size w2 wr) (fun i _ => kf + 1 - (intOf i).toNat)
          case atStart => exact ⟨1, Nat.le_refl _, by omega, rfl, HX6.out, HB6.out⟩
          case round =>
            obtain ⟨k, hk1, hk, rfl, hgr, hbk⟩ := hrel
            have HGr := hid hgr
            have HBk := hid hbk
            by_cases hlt : k ≤ kf
            · have HK := hid (And.intro hk1 hlt)
              have hkk : (k : Int) ≤ (kf : Int) := by omega
              have hin := HIn.out
              have hw3 : IntKind.i64.wrap (at0 + lit + (k : Int)) = at0 + lit + (k : Int) := by rw [IntKind.wrap_i64]; omega
              have HCall := hid (HFi.out wr (at0 + lit + (k : Int)) (HFx2.out.low hbk))
              have hno := HFw.out (k : Int) (by omega) (by omega)
              clear hgr hbk hk1 hk hlt hin
              cases ho : find (at0 + lit + (k : Int)) with
              | none =>
                rw [ho] at HCall
                dsimp only [Option.getD, Option.isSome, Sq.zero] at HCall
                clear hno ho
                go_wp2_with fail
                refine HCall.out.mono ?_
                rintro e w5 ⟨rfl, hb5⟩
                have hbn := hb5.alloc hb5.size (.cells #[.int .i64 0, .int .i64 0, .int .i64 0] 49)
                have HG5 := hid (HGr.out.below hbn HGr.out.lt)
                have HB5 := hid (HBk.out.trans (hbn.mono HBk.out.size))
                clear hb5 hbn
                go_wp2
                go_roundw
                case rel => exact ⟨k + 1, by omega, by have := HK.out; omega, by go_num, HG5.out, HB5.out⟩
                case measure => have := HK.out; simp [intOf]; omega
              | some u =>
                have hlu : ¬ len < u.len := by have := hno u ho; omega
                rw [ho] at HCall
                obtain ⟨ul, un, uo⟩ := u
                dsimp only [Option.getD, Option.isSome] at HCall hlu
                clear hno ho
                go_wp2_with fail
                refine HCall.out.mono ?_
                rintro e w5 ⟨rfl, hb5⟩
                have hbn := hb5.alloc hb5.size (.cells #[.int .i64 ul, .int .i64 un, .int .i64 uo] 49)
                have HG5 := hid (HGr.out.below hbn HGr.out.lt)
                have HB5 := hid (HBk.out.trans (hbn.mono HBk.out.size))
                have HU5 := hid (Blk.new w5 [.int .i64 ul, .int .i64 un, .int .i64 uo] 49)
                clear hb5 hbn
                go_upto_region 21 with fail
                generalize w5.alloc (.cells #[.int .i64 ul, .int .i64 un, .int .i64 uo] 49) = w6 at *
                generalize w5.heap.size = G2 at *
                have z1 := HG5.out.cell (k := 1) rfl
                have z2 := HU5.out.cell (k := 1) rfl
                go_wp2
                go_roundw
                case rel => exact ⟨k + 1, by omega, by have := HK.out; omega, by go_num, HG5.out, HB5.out⟩
                case measure => have := HK.out; simp [intOf]; omega
            · obtain rfl : k = kf + 1 := by omega
              have hkk : ¬ ((kf + 1 : Nat) : Int) ≤ (kf : Int) := by omega
              have hin := HIn.out
              have hw4 : IntKind.i64.wrap (at0 + lit + len) = at0 + lit + len := by rw [IntKind.wrap_i64]; omega
              have z1 := HGr.out.cell (k := 1) rfl
              clear hgr hbk hin
              go_wp2
              go_roundw
              case rel => exact ⟨j + 1, HJ.out, by go_num, by rw [HEn.out], HBk.out⟩
              case measure => have := HJ.out; simp [intOf]; omega
        · obtain rfl : j = L.length := by omega
          have hg3 := g3 rfl
          generalize endOf 0 (L.take L.length) = at0 at *
          have HIn := hid (And.intro g0 g1)
          have HNo := hid hg3
          clear g0 g1 g2 g3 hg3 hbr hj hjl
          go_wp2_with fail
          generalize wr = w3 at *
          go_loopw [16] (fun t wr => ∃ q : Int, t = .int .i64 q ∧ Hid (at0 ≤ q ∧ q ≤ (D.length : Int)) ∧ Below w2.heap.size w2 wr) (fun t _ => ((D.length : Int) - intOf t).toNat)
          case atStart => exact ⟨at0, rfl, hid ⟨Int.le_refl _, HIn.out.2⟩, HBr.out⟩
          case round =>
            obtain ⟨q, rfl, HQ, hbq⟩ := hrel
            have HBq := hid hbq
            by_cases hq : q < (D.length : Int)
            · have h1 := HQ.out
              have h2 := HIn.out
              have hnone := HNo.out q h1.1 hq
              have HCall := hid (HFi.out wr q (HFx2.out.low hbq))
              rw [hnone] at HCall
              dsimp only [Option.getD, Option.isSome, Sq.zero] at HCall
              have hw5 : IntKind.i64.wrap (q + 1) = q + 1 := by rw [IntKind.wrap_i64]; omega
              have HLt := hid hq
              clear h1 h2 hnone hbq
              go_wp2_with fail
              refine HCall.out.mono ?_
              rintro e w5 ⟨rfl, hb5⟩
              have HB5 := hid (HBq.out.trans ((hb5.alloc hb5.size (.cells #[.int .i64 0, .int .i64 0, .int .i64 0] 49)).mono HBq.out.size))
              clear hb5
              go_wp2
              go_roundw
              case rel => exact ⟨q + 1, rfl, hid ⟨by have := HQ.out; omega, by have := HLt.out; omega⟩, HB5.out⟩
              case measure => have := HLt.out; simp [intOf]; omega
            · have HBf := hid (HBw2.out.trans (HBq.out.mono HBw2.out.size))
              clear hbq
              go_wp2_with fail
              refine (HW.out _).mono ?_
              rintro e w10 ⟨rfl, hb⟩
              go_wp2
              go_ret
              exact ⟨rfl, HBf.out.trans (hb.mono HBf.out.size)⟩
    · have hc := (lazyE_bad he).2
      clear hm hk hA hD hlen he hbs
      rcases hc with h1 | ⟨h1, h2⟩
      all_goals
        go_wp2_with (go_at_call 12; refine (HW.out _).mono ?_; rintro e w' ⟨rfl, hb⟩)
        go_ret
        exact ⟨rfl, HBw1.out.trans (hb.mono HBw1.out.size)⟩
end Go.Proofs.Ytclheffeiaaodaa
namespace Go.Proofs.Ytclheffeiaaodaa.LLazyWaits
open Go.ChangeShapes Go.WideShapes Go.ChangeAt Go.RowKit Go.Port

set_option maxRecDepth 100000 in
theorem lifted (os : Os) (started : os.Started) (H : Type) (enc : TypeId × Value → H) :
    ReturnsInHanded {} Try.checked os 6 .any (Rows.lazyWaitsSpec.pre6 enc Try.prog Try.f6 Rows.lazyWaitsRow.domain false) (Rows.lazyWaitsSpec.post enc Try.prog Try.f6 false true false false) := by
  refine returnsInHanded_of_change (C := Try.checked) Try.own started (by kernel_rfl) Try.func6
    (ChangeSpec.witness6 (enc := enc) (C := Try.checked) false ⟨#[], #[.slice none 0 0, .slice none 0 0, .int .i64 0, .int .i64 0, .int .i64 0], []⟩ 8 (by kernel_rfl) (by kernel_rfl) (by kernel_rfl) (by kernel_rfl)) ?_
  intro W base args ds gs before hval0 hW hcnd _
  have hval : ∀ (j : Nat) t v, Try.f6.params[j]? = some t → args[j]? = some v → Value.okWide Try.prog W .any base t v := hval0
  have hW' := hW
  obtain ⟨p, q, hA0, hV, rfl, hfz, hnd⟩ := hW
  have hA : DataW.TrodAll enc Try.prog W 0 (fun _ => true) true Try.f6.params.toList args.toList ds p := hA0
  rw [Try.params6] at hA hval
  obtain ⟨v0, vs0, d0, ds0, p0, q0, hargs, rfl, rfl, h0, r0⟩ := trodAll_cons hA
  obtain ⟨v1, vs1, d1, ds1, p1, q1, rfl, rfl, rfl, h1, r1⟩ := trodAll_cons r0
  obtain ⟨v2, vs2, d2, ds2, p2, q2, rfl, rfl, rfl, h2, r2⟩ := trodAll_cons r1
  obtain ⟨v3, vs3, d3, ds3, p3, q3, rfl, rfl, rfl, h3, r3⟩ := trodAll_cons r2
  obtain ⟨v4, vs4, d4, ds4, p4, q4, rfl, rfl, rfl, h4, r4⟩ := trodAll_cons r3
  obtain ⟨rfl, rfl, rfl⟩ := trodAll_nil r4
  obtain rfl : args = #[v0, v1, v2, v3, v4] := by cases args; simp_all
  obtain ⟨rfl, rfl⟩ := trodVars_none hV
  obtain ⟨l0, hl0, wl0⟩ := open_rowV Try.underlying22 Try.underlying5 (by kernel_rfl) (hval 0 22 v0 rfl rfl) h0
  obtain ⟨bs0, hbs0, hn0⟩ := bytes_of wl0
  rw [hbs0, ← hn0] at hl0
  obtain ⟨l1, hl1, wl1⟩ := open_rowV Try.underlying22 Try.underlying5 (by kernel_rfl) (hval 1 22 v1 rfl rfl) h1
  obtain ⟨bs1, hbs1, hn1⟩ := bytes_of wl1
  rw [hbs1, ← hn1] at hl1
  obtain ⟨a2, rfl, rfl, rfl, w2⟩ := open_int Try.underlying3 (hval 2 3 v2 rfl rfl) h2
  obtain ⟨a3, rfl, rfl, rfl, w3⟩ := open_int Try.underlying3 (hval 3 3 v3 rfl rfl) h3
  obtain ⟨a4, rfl, rfl, rfl, w4⟩ := open_int Try.underlying3 (hval 4 3 v4 rfl rfl) h4
  clear hA0 hval0
  simp only [List.append_nil] at hW'
  refine (LazyWaits_walk W v0 bs0 hl0 v1 bs1 hl1 a2 a3 a4).mono fun e W' ⟨he, hb⟩ => ?_
  subst he
  exact ⟨_, rfl, law_post Try.kids Try.full Try.underlying4 rfl rfl hW' (by rw [Try.params6]; decide) rfl rfl rfl hb⟩

theorem over : Rows.lazyWaitsRow.holds Try.pinned (OpenSpec.ofChange Rows.lazyWaitsSpec) :=
  OpenClaim.holds_of_wide 6 Try.f6 rfl rfl rfl rfl rfl rfl rfl ⟨rfl, rfl, rfl, rfl, rfl⟩ rfl rfl rfl rfl rfl (by kernel_rfl) Try.func6 (by kernel_rfl)
    (of_decide_eq_true (by kernel_rfl)) (by unfold Func.isWrapper; first | (rw [if_pos (by decide +kernel)]; kernel_rfl) | (rw [if_neg (by decide +kernel)]; exact ⟨rfl, rfl⟩))
    (fun os started H enc _ => lifted os started H enc)

/-- The statement. -/
theorem proved : Rows.LazyWaitsSaid :=
  over
end Go.Proofs.Ytclheffeiaaodaa.LLazyWaits
