/-
  The law GreedyRest: for at most 200 bytes each of history and data, the plan from the end of a match is the rest of the plan, and a minimum length above the data length gives an empty plan. No condition.
-/
import Derived.Test.YtngphgdoolcpcaaGrM
namespace Go.Proofs.Ytngphgdoolcpcaa
open Go.RowKit Go.Port

set_option maxRecDepth 100000 in
set_option maxHeartbeats 4000000 in
theorem GreedyRest_walk (w : World) (v1 : Value) (A : List UInt8) (h1 : Rs w 1 v1 A.length (A.map bv)) (v2 : Value) (D : List UInt8) (h2 : Rs w 1 v2 D.length (D.map bv)) (W dep k : Int) (hkb : -9223372036854775808 ≤ k ∧ k ≤ 9223372036854775807) :
    Calls Try.prog 6 #[v1, v2, .int .i64 W, .int .i64 dep, .int .i64 k] w (RetV w (.bool true)) := by
  have HW := hid works_any
  have HM := hid (made_any v1 v2 A D W dep w h1 h2)
  obtain ⟨_, av2, cv2, rfl, _⟩ := h2
  clear h1
  generalize hbs : A ++ D = bs at *
  go_enter Try.func6, Try.ntmps6
  go_wp2_with fail
  refine HM.out.mono ?_
  rintro e w1 (⟨rfl, hb⟩ | ⟨hm, F, a, c, rfl, hF, hC, hac, hb⟩)
  · have HB := hid (hb.alloc hb.size (.cells #[.slice none 0 0, .int .i64 0, .int .i64 0, .int .i64 0] 25))
    unfold fdv
    clear hb HM hbs
    go_wp2_with (go_at_call 12; refine (HW.out _).mono ?_; rintro e w' ⟨rfl, hb⟩)
    go_ret
    exact ⟨rfl, HB.out.trans (hb.mono HB.out.size)⟩
  · have hA := hm.hA
    have hD := hm.hD
    have hlen : bs.length = A.length + D.length := by rw [← hbs, List.length_append]
    have HFx := hid (hF.low (below_new w1 (.cells (fdc a bs.length c A.length W dep).toArray 25)))
    have HB1 := hid (hb.alloc hb.size (.cells (fdc a bs.length c A.length W dep).toArray 25))
    have HPa := hid (fun W' hF' => gparse_any bs A.length W dep F W' hF')
    have HPm := hid (fun W' hF' => gmin_any bs A.length W dep F ((D.length : Int) + 3) W' hF')
    have HPf := hid (fun q W' hF' => gfrom_any bs A.length W dep F q 3 W' hF')
    rw [fromE_zero (by omega) (Int.le_refl _) (by omega), fromL_none (by omega)] at HPm
    have hL := fromL_length bs A.length W dep 0 3
    have hR := fun k hk => @fromL_rest bs A.length W dep 3 (by omega) (by omega) k hk
    have hln : (fromL bs A.length W dep 0 3).length = (seqs (fromL bs A.length W dep 0 3)).length := by unfold seqs; rw [List.length_map]
    rw [hln] at hL
    have hin := seqs_pos (bs := bs) (A := A.length) (W := W) (D := dep) (p := 0) (least := 3)
    generalize seqs (fromL bs A.length W dep 0 3) = L at *
    have HR := hid hR
    have hLn : L.length ≤ 400 := by omega
    have HSz := hid (show (bs.length : Int) - (A.length : Int) ≤ 200 by omega)
    have HFE := hid (fun q h1 h2 => @fromE_zero bs A.length q 3 (by omega) h1 h2)
    have HIn := hid hin
    have hw1 : IntKind.i64.wrap ((D.length : Int) + 3) = (D.length : Int) + 3 := by rw [IntKind.wrap_i64]; omega
    unfold fdc at HFx HB1
    unfold fdv
    clear hF hb hC HM hbs hm hA hD hlen hL hln hR hac hin
    go_wp2_with fail
    refine (HPa.out _ HFx.out).mono ?_
    rintro e w2 ⟨v2, rfl, hown, hb⟩
    obtain ⟨a2, c2, rfl⟩ := own_slice hown
    have HL2 := hid ((Sl.of_owns hown).cells' rfl)
    have HCap := hid ((Sl.of_owns hown).cap rfl)
    have HB2 := hid (HB1.out.trans (hb.mono HB1.out.size))
    have HF2 := hid (HFx.out.low hb)
    clear hown hb HFx HB1
    go_wp2_with fail
    refine (HPm.out _ HF2.out).mono ?_
    rintro e w3 ⟨v3, rfl, hown, hb⟩
    obtain ⟨a3, c3, rfl⟩ := own_slice hown
    have HL3 := hid (HL2.out.low hb)
    have HB3 := hid (HB2.out.trans (hb.mono HB2.out.size))
    have HF3 := hid (HF2.out.low hb)
    clear hown hb HL2 HB2 HF2 hw1
    simp only [seqs, List.map_nil, List.length_nil]
    by_cases hk0 : k < 0
    · go_wp2_with (first | (go_at_call 16; refine (num_any _ _).mono ?_; rintro e w' ⟨rfl, rfl⟩) | (go_at_call 12; refine (HW.out _).mono ?_; rintro e w' ⟨rfl, hb⟩))
      go_ret
      exact ⟨rfl, HB3.out.trans (hb.mono HB3.out.size)⟩
    · by_cases hk1 : (L.length : Int) < k
      · go_wp2_with (first | (go_at_call 16; refine (num_any _ _).mono ?_; rintro e w' ⟨rfl, rfl⟩) | (go_at_call 12; refine (HW.out _).mono ?_; rintro e w' ⟨rfl, hb⟩))
        go_ret
        exact ⟨rfl, HB3.out.trans (hb.mono HB3.out.size)⟩
      · obtain ⟨K, rfl⟩ : ∃ K : Nat, k = (K : Int) := ⟨k.toNat, by omega⟩
        have hKl : K ≤ L.length := by omega
        have HK := hid hKl
        go_wp2_with (first | (go_at_call 16; refine (num_any _ _).mono ?_; rintro e w' ⟨rfl, rfl⟩))
        go_loopw [18, 19] (fun t i wr => ∃ j : Nat, j ≤ K ∧ i = .int .i64 (j : Int) ∧ t = .int .i64 (endOf 0 (L.take j)) ∧ ∃ m, wr = w3.drewN m) (fun _ i _ => K - (intOf i).toNat)
        case atStart => exact ⟨0, Nat.zero_le _, rfl, rfl, 0, rfl⟩
        case round =>
          obtain ⟨j, hj, rfl, rfl, m, rfl⟩ := hrel
          by_cases hlt : j < K
          · have hjl : j < L.length := by omega
            obtain ⟨x, hx⟩ : ∃ x, L[j]? = some x := ⟨L[j], by simp [hjl]⟩
            obtain ⟨bl, off, rfl, hbl, c0⟩ := HL3.out (j * 3 + 0) (.int .i64 x.lit) (by rw [sqc_get hx 0 (by omega)]; rfl)
            obtain ⟨_, _, e1, _, c1⟩ := HL3.out (j * 3 + 1) (.int .i64 x.len) (by rw [sqc_get hx 1 (by omega)]; rfl)
            cases e1
            rw [Nat.add_zero] at c0
            rw [← Nat.add_assoc] at c1
            have hst : L.take (j + 1) = L.take j ++ [x] := by
              obtain ⟨h1, h2⟩ := List.getElem?_eq_some_iff.1 hx
              rw [List.take_succ_eq_append_getElem h1, h2]
            have hen : endOf 0 (L.take (j + 1)) = endOf 0 (L.take j) + x.lit + x.len := by rw [hst, endOf_snoc]
            have hr1 := HR.out j (by omega)
            have hr2 := HR.out (j + 1) (by omega)
            have hsz := HSz.out
            have hjI : (j : Int) < (K : Int) := by omega
            have hjLI : (j : Int) < (L.length : Int) := by omega
            have hps := HIn.out x (List.mem_of_getElem? hx)
            obtain ⟨xl, xn, xo⟩ := x
            dsimp only at c0 c1 hen hps
            generalize endOf 0 (L.take j) = e0 at *
            generalize hE1 : endOf 0 (L.take (j + 1)) = e1 at *
            have hw2 : IntKind.i64.wrap (e0 + xl) = e0 + xl := by rw [IntKind.wrap_i64]; omega
            have hw3 : IntKind.i64.wrap (e0 + xl + xn) = e1 := by rw [IntKind.wrap_i64]; omega
            have HE1 := hid hE1
            have HJ := hid hlt
            clear hE1 hen hr1 hr2 hps hst hx hj hlt
            go_wp2_with fail
            go_quiet (fail)
            go_wp2
            go_roundw
            case rel => exact ⟨j + 1, HJ.out, by go_num, by rw [HE1.out], _, rfl⟩
            case measure => have := HJ.out; simp [intOf]; omega
          · obtain rfl : j = K := by omega
            obtain ⟨hr1, hr2, hr3⟩ := HR.out j (by omega)
            have hw4 := below_drewN (Below.refl w3.heap.size w3) m
            have HPq := hid (HPf.out (endOf 0 (L.take j)) (w3.drewN m) (HF3.out.low hw4))
            rw [HFE.out _ hr2 hr3, hr1] at HPq
            have hln2 : (fromL bs A.length W dep (endOf 0 (L.take j)) 3).length = (L.drop j).length := by rw [← hr1]; unfold seqs; rw [List.length_map]
            have hdl : (L.drop j).length = L.length - j := List.length_drop
            generalize endOf 0 (L.take j) = e0 at *
            generalize w3.drewN m = w4 at *
            have HB4 := hid (HB3.out.trans (hw4.mono HB3.out.size))
            have HL4 := hid (HL3.out.low hw4)
            have HRs := hid (fun a1 c1 a2 c2 W' hc1 hc2 => rsame_self a1 a2 c1 c2 (L.drop j) W' (by omega) hc1 hc2)
            rw [hdl] at HRs HPq
            clear hr1 hr2 hr3 hw4 hln2 hdl hj hlt
            go_wp2_with fail
            refine HPq.out.mono ?_
            rintro e w5 ⟨v5, rfl, hown, hb⟩
            obtain ⟨a5, c5, rfl⟩ := own_slice hown
            have HL5 := hid (HL4.out.low hb)
            have HC5 := hid ((Sl.of_owns hown).cells' rfl)
            have HB5 := hid (HB4.out.trans (hb.mono HB4.out.size))
            have hcap := HCap.out
            have HK := hid hKl
            clear hown hb HL4 HB4 HPq
            have hKI : (j : Int) ≤ (L.length : Int) := by omega
            have hcI : (L.length : Int) ≤ (c2 : Int) := by have := hcap.1; omega
            have HD5 := hid (HL5.out.dropSq HK.out)
            have HE5 := hid (show c2 = j → CellsAt w5 a2 ((L.drop j).flatMap sqc) from fun h q u hu => by
              have := hcap.1
              rw [List.drop_eq_nil_of_le (by omega)] at hu
              simp at hu)
            clear hcap hKl HCap
            go_wp2_with (first | (go_at_call 16; refine (num_any _ _).mono ?_; rintro e w' ⟨rfl, rfl⟩))
            · refine (HRs.out a5 c5 a2 0 w5 HC5.out (HE5.out (by omega))).mono ?_
              rintro e w' ⟨rfl, m, rfl⟩
              have HB6 := hid (below_drewN HB5.out m)
              go_wp2_with (go_at_call 12; refine (HW.out _).mono ?_; rintro e w' ⟨rfl, hb⟩)
              go_ret
              exact ⟨rfl, HB6.out.trans (hb.mono HB6.out.size)⟩
            · refine (HRs.out a5 c5 _ (c2 - j) w5 HC5.out HD5.out).mono ?_
              rintro e w' ⟨rfl, m, rfl⟩
              have HB6 := hid (below_drewN HB5.out m)
              go_wp2_with (go_at_call 12; refine (HW.out _).mono ?_; rintro e w' ⟨rfl, hb⟩)
              go_ret
              exact ⟨rfl, HB6.out.trans (hb.mono HB6.out.size)⟩
end Go.Proofs.Ytngphgdoolcpcaa
namespace Go.Proofs.Ytngphgdoolcpcaa.LGreedyRest
open Go.ChangeShapes Go.WideShapes Go.ChangeAt Go.RowKit Go.Port

set_option maxRecDepth 100000 in
theorem lifted (os : Os) (started : os.Started) (H : Type) (enc : TypeId × Value → H) :
    ReturnsInHanded {} Try.checked os 6 .any (Rows.greedyRestSpec.pre6 enc Try.prog Try.f6 Rows.greedyRestRow.domain false) (Rows.greedyRestSpec.post enc Try.prog Try.f6 false true false false) := by
  refine returnsInHanded_of_change (C := Try.checked) Try.own started (by kernel_rfl) Try.func6
    (ChangeSpec.witness6 (enc := enc) (C := Try.checked) false ⟨#[], #[.slice none 0 0, .slice none 0 0, .int .i64 0, .int .i64 0, .int .i64 0], []⟩ 8 (by kernel_rfl) (by kernel_rfl) (by kernel_rfl) (by kernel_rfl)) ?_
  intro W base args ds gs before hval0 hW hcnd _
  have hval : ∀ (j : Nat) t v, Try.f6.params[j]? = some t → args[j]? = some v → Value.okWide Try.prog W .any base t v := hval0
  have hW' := hW
  obtain ⟨p, q, hA0, hV, rfl, hfz, hnd⟩ := hW
  have hA : DataW.TrodAll enc Try.prog W 0 (fun _ => true) true Try.f6.params.toList args.toList ds p := hA0
  rw [Try.params6] at hA hval
  obtain ⟨v0, vs0, d0, ds0, p0, q0, hargs, rfl, rfl, h0, r0⟩ := trodAll_cons hA
  obtain ⟨v1, vs1, d1, ds1, p1, q1, rfl, rfl, rfl, h1, r1⟩ := trodAll_cons r0
  obtain ⟨v2, vs2, d2, ds2, p2, q2, rfl, rfl, rfl, h2, r2⟩ := trodAll_cons r1
  obtain ⟨v3, vs3, d3, ds3, p3, q3, rfl, rfl, rfl, h3, r3⟩ := trodAll_cons r2
  obtain ⟨v4, vs4, d4, ds4, p4, q4, rfl, rfl, rfl, h4, r4⟩ := trodAll_cons r3
  obtain ⟨rfl, rfl, rfl⟩ := trodAll_nil r4
  obtain rfl : args = #[v0, v1, v2, v3, v4] := by cases args; simp_all
  obtain ⟨rfl, rfl⟩ := trodVars_none hV
  obtain ⟨l0, hl0, wl0⟩ := open_rowV Try.underlying22 Try.underlying5 (by kernel_rfl) (hval 0 22 v0 rfl rfl) h0
  obtain ⟨bs0, hbs0, hn0⟩ := bytes_of wl0
  rw [hbs0, ← hn0] at hl0
  obtain ⟨l1, hl1, wl1⟩ := open_rowV Try.underlying22 Try.underlying5 (by kernel_rfl) (hval 1 22 v1 rfl rfl) h1
  obtain ⟨bs1, hbs1, hn1⟩ := bytes_of wl1
  rw [hbs1, ← hn1] at hl1
  obtain ⟨a2, rfl, rfl, rfl, w2⟩ := open_int Try.underlying3 (hval 2 3 v2 rfl rfl) h2
  obtain ⟨a3, rfl, rfl, rfl, w3⟩ := open_int Try.underlying3 (hval 3 3 v3 rfl rfl) h3
  obtain ⟨a4, rfl, rfl, rfl, w4⟩ := open_int Try.underlying3 (hval 4 3 v4 rfl rfl) h4
  clear hA0 hval0
  simp only [List.append_nil] at hW'
  refine (GreedyRest_walk W v0 bs0 hl0 v1 bs1 hl1 a2 a3 a4 (bounds_i64 w4)).mono fun e W' ⟨he, hb⟩ => ?_
  subst he
  exact ⟨_, rfl, law_post Try.kids Try.full Try.underlying4 rfl rfl hW' (by rw [Try.params6]; decide) rfl rfl rfl hb⟩

theorem over : Rows.greedyRestRow.holds Try.pinned (OpenSpec.ofChange Rows.greedyRestSpec) :=
  OpenClaim.holds_of_wide 6 Try.f6 rfl rfl rfl rfl rfl rfl rfl ⟨rfl, rfl, rfl, rfl, rfl⟩ rfl rfl rfl rfl rfl (by kernel_rfl) Try.func6 (by kernel_rfl)
    (of_decide_eq_true (by kernel_rfl)) (by unfold Func.isWrapper; first | (rw [if_pos (by decide +kernel)]; kernel_rfl) | (rw [if_neg (by decide +kernel)]; exact ⟨rfl, rfl⟩))
    (fun os started H enc _ => lifted os started H enc)

/-- The statement. -/
theorem proved : Rows.GreedyRestSaid :=
  over
end Go.Proofs.Ytngphgdoolcpcaa.LGreedyRest
