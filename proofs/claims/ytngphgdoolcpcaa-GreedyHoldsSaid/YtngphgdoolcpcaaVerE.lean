/-
  The walks of layer 22 (plan), fifth part: Verify, for a plan of its data.
-/
import Derived.Test.YtngphgdoolcpcaaVerD
namespace Go.Port
open Go.RowKit
theorem CellsAt.sub {w : World} {b o : Nat} {bs : List UInt8} (h : CellsAt w (some ⟨b, o, none⟩) (bs.map bv)) (F n : Nat) : CellsAt w (some ⟨b, o + F, none⟩) (((bs.drop F).take n).map bv) := by
  intro j u hu
  have h2 : (bs.map bv)[F + j]? = some u := by
    rw [List.getElem?_map, List.getElem?_take] at hu
    rw [List.getElem?_map]
    split at hu
    · rw [List.getElem?_drop] at hu; exact hu
    · cases hu
  obtain ⟨b2, o2, e1, e2, e3⟩ := h (F + j) u h2
  cases e1
  exact ⟨b, o + F, rfl, e2, by rw [Nat.add_assoc]; exact e3⟩
theorem seg_same {bs : List UInt8} {F G n : Nat} (h : ∀ k, k < n → bs[F + k]? = bs[G + k]?) : (bs.drop F).take n = (bs.drop G).take n := by
  apply List.ext_getElem?
  intro j
  rw [List.getElem?_take, List.getElem?_take]
  split
  · rename_i hj
    rw [List.getElem?_drop, List.getElem?_drop]
    exact h j hj
  · rfl
end Go.Port
namespace Go.Proofs.Ytngphgdoolcpcaa
open Go.RowKit Go.Port

set_option maxRecDepth 100000 in
set_option maxHeartbeats 8000000 in
theorem pverify_ok (l : List Sq) (al a1 a2 : Option Addr) (cl c1 c2 : Nat) (A D : List UInt8) (W : Int) (w : World) (hl : l.length ≤ 900000) (hlc : l.length ≤ cl) (hc : CellsAt w al (l.flatMap sqc))
    (hA : A.length ≤ 800000) (hD : (D.length : Int) ≤ 131072) (h1 : A.length ≤ c1) (h2 : D.length ≤ c2) (h3 : a1 = none → c1 = 0) (h4 : a2 = none → c2 = 0) (hc1 : CellsAt w a1 (A.map bv)) (hc2 : CellsAt w a2 (D.map bv)) (hW : 1 ≤ W) (hW2 : W ≤ 134217728) (hv : VerOk (A ++ D) A.length W 0 l) :
    Calls Try.prog 25 #[.slice al l.length cl, .slice a1 A.length c1, .slice a2 D.length c2, .int .i64 W] w (RetV w (.int .i64 0)) := by
  obtain ⟨bs, hbs⟩ : ∃ bs, A ++ D = bs := ⟨_, rfl⟩
  have hbl : bs.length = A.length + D.length := by rw [← hbs, List.length_append]
  rw [hbs] at hv
  have hsz : (bs.length : Int) - (A.length : Int) = (D.length : Int) := by omega
  have hp1 := hv.plIn (by omega) (by omega) hW2
  have hp2 := hv.plMax (by omega)
  rw [hsz] at hp1
  have HCk := hid (pcheck_ok l al cl (D.length : Int) (A.length : Int) W w (by omega) hlc hc hp1 (by omega) hD (by omega) hW hW2)
  have HCo := hid (fun (p : Nat) (W' : World) (hW' : Below w.heap.size w W') hp => xconcat_any p a1 a2 c1 c2 A D W' (by omega) (by omega) h1 h2 h3 h4 hp (hc1.low hW') (hc2.low hW'))
  have HSt := hid (fun (W' : World) (hW' : Below w.heap.size w W') => psteps_ok l al cl W' hl hlc (hc.low hW') hp2)
  have HPl := hid hp2
  have HV := hid hv
  have HM := hid pmatch_any
  have HEq := hid bequal_any
  rw [hbs] at HCo
  have HLn := hid hbl
  have HL := hid hl
  have hbI : (bs.length : Int) ≤ 1000000 := by omega
  have hlI : (l.length : Int) ≤ 900000 := by omega
  unfold pstv at HM
  clear hl hc hA hD hc1 hc2 hW hW2 hv hbl hsz hp1 hp2 hbs
  go_enter Try.func25, Try.ntmps25
  go_wp2_with fail
  refine HCk.out.mono ?_
  rintro e w1 ⟨rfl, hb1⟩
  have hbn := below_new w1 (.cells #[.slice a1 A.length c1, .slice a2 D.length c2] 22)
  have HB2 := hid (hb1.trans (hbn.mono hb1.size))
  have HCc := hid (HCo.out w1.heap.size _ HB2.out (Blk.new w1 _ _))
  clear hb1 hbn HCk HCo
  go_wp2_with fail
  refine HCc.out.mono ?_
  rintro e w3 ⟨v, rfl, hown, hb3⟩
  obtain ⟨va, ca, rfl⟩ := own_slice hown
  have HB3 := hid (HB2.out.trans (hb3.mono HB2.out.size))
  have HCl := hid ((Sl.of_owns hown).cells' rfl)
  have HCp := hid ((Sl.of_owns hown).cap rfl)
  have HSc := hid (HSt.out w3 HB3.out)
  clear hown hb3 HB2 HCc HSt
  go_wp2_with fail
  refine HSc.out.mono ?_
  rintro e w4 ⟨vs, rfl, hown, hb4⟩
  obtain ⟨av, cv, rfl⟩ := own_slice hown
  have HB4 := hid (HB3.out.trans (hb4.mono HB3.out.size))
  have HC4 := hid (HCl.out.low hb4)
  have HS4 := hid ((Sl.of_owns hown).cells' rfl)
  clear hown hb4 HB3 HCl HSc
  go_wp2_with fail
  go_loopw [39] (fun i wr => ∃ k : Nat, k ≤ l.length ∧ i = .int .i64 (k : Int) ∧ Below w4.heap.size w4 wr) (fun i _ => l.length - (intOf i).toNat)
  case atStart => exact ⟨0, Nat.zero_le _, rfl, Below.refl _ _⟩
  case round =>
    obtain ⟨k, hk, rfl, hb⟩ := hrel
    by_cases hlt : k < l.length
    · obtain ⟨s, hs⟩ : ∃ s, l[k]? = some s := ⟨l[k], by simp [hlt]⟩
      have hso := HV.out.drop l 0 k s hs
      have hin := (HPl.out (l.take k) s (l.drop (k + 1)) (by obtain ⟨h1, h2⟩ := List.getElem?_eq_some_iff.1 hs; rw [← h2, ← List.drop_eq_getElem_cons h1, List.take_append_drop])).1
      have hx : (psts 131072 0 0 l)[k]? = some ⟨s, (k : Int), endOf 0 (l.take k), 131072, 0, 0⟩ := by
        have := pstsGo_get 131072 0 0 l 0 0 k s hs
        rw [Int.zero_add] at this
        exact this
      rw [List.length_take, Nat.min_eq_left hk] at hin
      obtain ⟨lit, len, off⟩ := s
      obtain ⟨q0, q1, q2, q3, q4, q5, q6, q7⟩ := hso
      dsimp only at q1 q2 q3 q4 q5 q6 q7
      obtain ⟨P, hP⟩ : ∃ P : Nat, endOf 0 (l.take k) = (P : Int) := ⟨(endOf 0 (l.take k)).toNat, by omega⟩
      obtain ⟨Li, rfl⟩ : ∃ n : Nat, lit = (n : Int) := ⟨lit.toNat, by omega⟩
      obtain ⟨Ln, rfl⟩ : ∃ n : Nat, len = (n : Int) := ⟨len.toNat, by omega⟩
      obtain ⟨Of, rfl⟩ : ∃ n : Nat, off = (n : Int) := ⟨off.toNat, by omega⟩
      rw [hP] at hx hin q0 q3 q6 q7
      obtain ⟨F, hF⟩ : ∃ F : Nat, A.length + (P + Li) = F := ⟨_, rfl⟩
      obtain ⟨G, hG⟩ : ∃ G : Nat, F - Of = G := ⟨_, rfl⟩
      have hsame : (bs.drop F).take Ln = (bs.drop G).take Ln := seg_same fun j hj => by
        have := q7 j (by omega)
        rw [show ((A.length : Int) + ((P : Int) + (Li : Int))).toNat = F by omega, show ((A.length : Int) + ((P : Int) + (Li : Int)) - (Of : Int)).toNat = G by omega] at this
        exact this
      have hxl : ((bs.drop F).take Ln).length = Ln := by rw [List.length_take, List.length_drop]; omega
      have hbs0 : 0 < bs.length := by omega
      obtain ⟨vb, vo, rfl, hu1, hu2⟩ := HC4.out 0 (bv (bs[0]'hbs0)) (by simp [hbs0])
      have HEc := hid (fun (W' : World) (hW' : Below w4.heap.size w4 W') (ca1 ca2 : Nat) => HEq.out (some ⟨vb, vo + F, none⟩) (some ⟨vb, vo + G, none⟩) ca1 ca2 ((bs.drop F).take Ln) W' (by omega) ((HC4.out.low hW').sub F Ln) (by rw [hsame]; exact (HC4.out.low hW').sub G Ln))
      rw [hxl] at HEc
      obtain ⟨b, o, rfl, _, y0⟩ := HS4.out.low hb (k * 8 + 0) _ (by rw [pst_getc hx 0 (by omega)]; rfl)
      obtain ⟨_, _, e, _, y1⟩ := HS4.out.low hb (k * 8 + 1) _ (by rw [pst_getc hx 1 (by omega)]; rfl)
      cases e
      obtain ⟨_, _, e, _, y2⟩ := HS4.out.low hb (k * 8 + 2) _ (by rw [pst_getc hx 2 (by omega)]; rfl)
      cases e
      obtain ⟨_, _, e, _, y3⟩ := HS4.out.low hb (k * 8 + 3) _ (by rw [pst_getc hx 3 (by omega)]; rfl)
      cases e
      obtain ⟨_, _, e, _, y4⟩ := HS4.out.low hb (k * 8 + 4) _ (by rw [pst_getc hx 4 (by omega)]; rfl)
      cases e
      obtain ⟨_, _, e, _, y5⟩ := HS4.out.low hb (k * 8 + 5) _ (by rw [pst_getc hx 5 (by omega)]; rfl)
      cases e
      obtain ⟨_, _, e, _, y6⟩ := HS4.out.low hb (k * 8 + 6) _ (by rw [pst_getc hx 6 (by omega)]; rfl)
      cases e
      obtain ⟨_, _, e, _, y7⟩ := HS4.out.low hb (k * 8 + 7) _ (by rw [pst_getc hx 7 (by omega)]; rfl)
      cases e
      rw [Nat.add_zero] at y0
      rw [← Nat.add_assoc] at y1 y2 y3 y4 y5 y6 y7
      dsimp only at y0 y1 y2 y3 y4 y5 y6 y7
      have HMc := hid (fun W' => HM.out _ W' hin)
      dsimp only at HMc
      have hca := HCp.out.1
      have hwf : IntKind.i64.wrap ((A.length : Int) + ((P : Int) + (Li : Int))) = (F : Int) := by rw [IntKind.wrap_i64]; omega
      have hwa : IntKind.i64.wrap ((F : Int) + (Ln : Int)) = ((F + Ln : Nat) : Int) := by rw [IntKind.wrap_i64]; omega
      have hwb : IntKind.i64.wrap ((F : Int) - (Of : Int)) = (G : Int) := by rw [IntKind.wrap_i64]; omega
      have hwc : IntKind.i64.wrap ((G : Int) + (Ln : Int)) = ((G + Ln : Nat) : Int) := by rw [IntKind.wrap_i64]; omega
      have hfl : F + Ln ≤ ca := by omega
      have hgl : G + Ln ≤ ca := by omega
      have hn1 : ¬ ca = F := by omega
      have hn2 : ¬ ca = G := by omega
      have HHW := hid (And.intro hwa (And.intro hwb (And.intro hwc (And.intro hfl (And.intro hgl (And.intro hn1 hn2))))))
      have HWf := hid hwf
      have HB := hid hb
      have HK := hid hlt
      have hkI : (k : Int) < (l.length : Int) := by omega
      have HB5 := hid (hb.alloc hb.size (.cells #[.int .i64 (Li : Int), .int .i64 (Ln : Int), .int .i64 (Of : Int), .int .i64 (k : Int), .int .i64 (P : Int), .int .i64 131072, .int .i64 0, .int .i64 0] 86))
      have HX5 := hid (Blk.new wr [.int .i64 (Li : Int), .int .i64 (Ln : Int), .int .i64 (Of : Int), .int .i64 (k : Int), .int .i64 (P : Int), .int .i64 131072, .int .i64 0, .int .i64 0] 86)
      clear hu1 hu2 hbs0 hwa hwb hwc hwf hfl hgl hn1 hn2 hca hb hx hin q0 q1 q2 q3 q4 q5 q6 q7 hP hF hG hsame hxl hs hk hlt
      go_upto_region 9 with fail
      generalize wr.alloc (.cells #[.int .i64 (Li : Int), .int .i64 (Ln : Int), .int .i64 (Of : Int), .int .i64 (k : Int), .int .i64 (P : Int), .int .i64 131072, .int .i64 0, .int .i64 0] 86) = w5 at *
      clear y0 y1 y2 y3 y4 y5 y6 y7
      go_cut [16] (fun t wx => t = .int .i64 (F : Int) ∧ Below w5.heap.size w5 wx)
      case first =>
        have c0 := HX5.out.cell (k := 0) rfl
        have c1 := HX5.out.cell (k := 1) rfl
        have c2 := HX5.out.cell (k := 2) rfl
        have c3 := HX5.out.cell (k := 3) rfl
        have c4 := HX5.out.cell (k := 4) rfl
        have c5 := HX5.out.cell (k := 5) rfl
        have c6 := HX5.out.cell (k := 6) rfl
        have c7 := HX5.out.cell (k := 7) rfl
        go_wp2_with fail
        refine (HMc.out _).mono ?_
        rintro e w6 ⟨rfl, hb6⟩
        dsimp only
        have hwf := HWf.out
        go_wp2
        go_meet
        exact ⟨rfl, hb6⟩
      case rest =>
        obtain ⟨rfl, hb6⟩ := hcut
        have HX6 := hid (HX5.out.below hb6 HX5.out.lt)
        have HB6 := hid (HB5.out.trans (hb6.mono HB5.out.size))
        obtain ⟨hwa, hwb, hwc, hfl, hgl, hn1, hn2⟩ := HHW.out
        clear hb6
        have c1 := HX6.out.cell (k := 1) rfl
        have c2 := HX6.out.cell (k := 2) rfl
        go_wp2_with fail
        go_quiet ((go_at_call 42; first | exact quiet_left3 (HEc.out _ (below_drewN HB6.out _) _ _) | exact quiet_left0 (HEc.out _ (below_drewN HB6.out _) _ _)))
        have HB7 := hid (below_drewN HB6.out nq)
        clear hwa hwb hwc hfl hgl hn1 hn2 c1 c2
        go_wp2
        go_roundw
        case rel => exact ⟨k + 1, HK.out, by go_num, HB7.out⟩
        case measure => have := HK.out; simp [intOf]; omega
    · obtain rfl : k = l.length := by omega
      have HB := hid (HB4.out.trans (hb.mono HB4.out.size))
      clear hb
      go_wp2
      go_ret
      exact ⟨rfl, HB.out⟩
end Go.Proofs.Ytngphgdoolcpcaa
