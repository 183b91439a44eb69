/-
  The law GreedyLeast: for at most 200 bytes each of history and data, with a larger minimum length every match is at least that long and the first match starts no earlier. No condition.
-/
import Derived.Test.YtngphgdoolcpcaaPlanFirst
namespace Go.Proofs.Ytngphgdoolcpcaa
open Go.RowKit Go.Port

set_option maxRecDepth 100000 in
set_option maxHeartbeats 4000000 in
theorem GreedyLeast_walk (w : World) (v1 : Value) (A : List UInt8) (h1 : Rs w 1 v1 A.length (A.map bv)) (v2 : Value) (D : List UInt8) (h2 : Rs w 1 v2 D.length (D.map bv)) (W dep least more : Int) :
    Calls Try.prog 7 #[v1, v2, .int .i64 W, .int .i64 dep, .int .i64 least, .int .i64 more] w (RetV w (.bool true)) := by
  have HW := hid works_any
  have HM := hid (made_any v1 v2 A D W dep w h1 h2)
  obtain ⟨_, av2, cv2, rfl, _⟩ := h2
  clear h1
  generalize hbs : A ++ D = bs at *
  go_enter Try.func7, Try.ntmps7
  go_wp2_with fail
  refine HM.out.mono ?_
  rintro e w1 (⟨rfl, hb⟩ | ⟨hm, F, a, c, rfl, hF, hC, hac, hb⟩)
  · have HB := hid (hb.alloc hb.size (.cells #[.slice none 0 0, .int .i64 0, .int .i64 0, .int .i64 0] 25))
    unfold fdv
    clear hb HM hbs
    go_wp2_with (go_at_call 12; refine (HW.out _).mono ?_; rintro e w' ⟨rfl, hb⟩)
    go_ret
    exact ⟨rfl, HB.out.trans (hb.mono HB.out.size)⟩
  · have hA := hm.hA
    have hD := hm.hD
    have hlen : bs.length = A.length + D.length := by rw [← hbs, List.length_append]
    have HFx := hid (hF.low (below_new w1 (.cells (fdc a bs.length c A.length W dep).toArray 25)))
    have HB1 := hid (hb.alloc hb.size (.cells (fdc a bs.length c A.length W dep).toArray 25))
    unfold fdc at HFx HB1
    unfold fdv
    clear hF hb hC HM hbs hac
    by_cases hbad : least < 3 ∨ (3 ≤ least ∧ 1000 < least) ∨ (3 ≤ least ∧ least ≤ 1000 ∧ more < 0) ∨ (3 ≤ least ∧ least ≤ 1000 ∧ 0 ≤ more ∧ 1000 < more)
    · clear hA hD hlen hm
      rcases hbad with h1 | ⟨h1, h2⟩ | ⟨h1, h2, h3⟩ | ⟨h1, h2, h3, h4⟩
      all_goals
        go_wp2_with (go_at_call 12; refine (HW.out _).mono ?_; rintro e w' ⟨rfl, hb⟩)
        go_ret
        exact ⟨rfl, HB1.out.trans (hb.mono HB1.out.size)⟩
    · have hg : 3 ≤ least ∧ least ≤ 1000 ∧ 0 ≤ more ∧ more ≤ 1000 := by omega
      obtain ⟨g1, g2, g3, g4⟩ := hg
      have HPm := hid (fun n W' hF' => gmin_any bs A.length W dep F n W' hF')
      have HPm1 := hid (HPm.out (least + more))
      have HPm2 := hid (HPm.out least)
      rw [fromE_zero (by omega) (Int.le_refl _) (by omega)] at HPm1 HPm2
      have hFi := first_later (bs := bs) (A := A.length) (W := W) (D := dep) (l := least) (m := least + more) g1 (by omega) (by omega)
      have hL := fromL_length bs A.length W dep 0 (least + more)
      have hL2 := fromL_length bs A.length W dep 0 least
      have hR := fun k hk => @fromL_rest bs A.length W dep (least + more) (by omega) (by omega) k hk
      have hln : ∀ n, (fromL bs A.length W dep 0 n).length = (seqs (fromL bs A.length W dep 0 n)).length := fun n => by unfold seqs; rw [List.length_map]
      rw [hln] at hL hL2
      have hin := seqs_pos (bs := bs) (A := A.length) (W := W) (D := dep) (p := 0) (least := least + more)
      have hsz : (bs.length : Int) - (A.length : Int) = (D.length : Int) := by omega
      rw [hsz] at hR hFi
      generalize seqs (fromL bs A.length W dep 0 (least + more)) = L at *
      generalize seqs (fromL bs A.length W dep 0 least) = K at *
      have HR := hid (fun k hk => (hR k hk).2)
      have HFi := hid hFi
      have hLn : L.length ≤ 400 := by omega
      have hKn : K.length ≤ 400 := by omega
      have HIn := hid hin
      have HD := hid hD
      have hw1 : IntKind.i64.wrap (least + more) = least + more := by rw [IntKind.wrap_i64]; omega
      clear hbad hA hD hlen hm hFi hL hL2 hR hln hin HPm hsz
      go_wp2_with fail
      refine (HPm1.out _ HFx.out).mono ?_
      rintro e w2 ⟨v2, rfl, hown, hb⟩
      obtain ⟨a2, c2, rfl⟩ := own_slice hown
      have HL2 := hid ((Sl.of_owns hown).cells' rfl)
      have HB2 := hid (HB1.out.trans (hb.mono HB1.out.size))
      have HF2 := hid (HFx.out.low hb)
      have HG := hid (And.intro g1 (And.intro g2 (And.intro g3 g4)))
      clear hown hb HFx HB1 g1 g2 g3 g4
      go_wp2_with fail
      go_loopw [18, 19] (fun t i wr => ∃ j : Nat, j ≤ L.length ∧ i = .int .i64 (j : Int) ∧ t = .int .i64 (endOf 0 (L.take j)) ∧ ∃ m, wr = w2.drewN m) (fun _ i _ => L.length - (intOf i).toNat)
      case atStart => exact ⟨0, Nat.zero_le _, rfl, rfl, 0, rfl⟩
      case round =>
        obtain ⟨j, hj, rfl, rfl, m, rfl⟩ := hrel
        by_cases hlt : j < L.length
        · obtain ⟨x, hx⟩ : ∃ x, L[j]? = some x := ⟨L[j], by simp [hlt]⟩
          obtain ⟨bl, off, rfl, hbl, c0⟩ := HL2.out (j * 3 + 0) (.int .i64 x.lit) (by rw [sqc_get hx 0 (by omega)]; rfl)
          obtain ⟨_, _, e1, _, c1⟩ := HL2.out (j * 3 + 1) (.int .i64 x.len) (by rw [sqc_get hx 1 (by omega)]; rfl)
          cases e1
          rw [Nat.add_zero] at c0
          rw [← Nat.add_assoc] at c1
          have hst : L.take (j + 1) = L.take j ++ [x] := by
            obtain ⟨h1, h2⟩ := List.getElem?_eq_some_iff.1 hx
            rw [List.take_succ_eq_append_getElem h1, h2]
          have hen : endOf 0 (L.take (j + 1)) = endOf 0 (L.take j) + x.lit + x.len := by rw [hst, endOf_snoc]
          have hr1 := HR.out j (by omega)
          have hr2 := HR.out (j + 1) (by omega)
          have hD := HD.out
          have hps := HIn.out x (List.mem_of_getElem? hx)
          have hjLI : (j : Int) < (L.length : Int) := by omega
          obtain ⟨xl, xn, xo⟩ := x
          dsimp only at c0 c1 hen hps
          generalize endOf 0 (L.take j) = e0 at *
          generalize hE1 : endOf 0 (L.take (j + 1)) = e1 at *
          have hw2 : IntKind.i64.wrap (e0 + xl) = e0 + xl := by rw [IntKind.wrap_i64]; omega
          have hw3 : IntKind.i64.wrap (e0 + xl + xn) = e1 := by rw [IntKind.wrap_i64]; omega
          have ht1 : ¬ xn < least + more := by omega
          have ht2 : ¬ xl < 0 := by omega
          have HE1 := hid hE1
          have HJ := hid hlt
          clear hE1 hen hr1 hr2 hps hst hx hj hlt hD
          go_wp2_with fail
          go_quiet (fail)
          go_wp2
          go_roundw
          case rel => exact ⟨j + 1, HJ.out, by go_num, by rw [HE1.out], _, rfl⟩
          case measure => have := HJ.out; simp [intOf]; omega
        · obtain rfl : j = L.length := by omega
          have hr1 := HR.out L.length (Nat.le_refl _)
          rw [List.take_of_length_le (Nat.le_refl _)] at hr1 ⊢
          have hw4 := below_drewN (Below.refl w2.heap.size w2) m
          have HPq := hid (HPm2.out (w2.drewN m) (HF2.out.low hw4))
          generalize endOf 0 L = e0 at *
          generalize w2.drewN m = w4 at *
          have HB4 := hid (HB2.out.trans (hw4.mono HB2.out.size))
          have HL4 := hid (HL2.out.low hw4)
          obtain ⟨hr0, hr1⟩ := hr1
          clear hw4 hj hlt HPm1 HPm2
          cases L with
          | nil =>
            clear HR
            go_wp2_with fail
            refine HPq.out.mono ?_
            rintro e w5 ⟨v5, rfl, hown, hb⟩
            obtain ⟨a5, c5, rfl⟩ := own_slice hown
            have HC5 := hid ((Sl.of_owns hown).cells' rfl)
            have HB5 := hid (HB4.out.trans (hb.mono HB4.out.size))
            clear hown hb HL4 HB4 HPq
            cases K with
            | nil =>
              go_wp2_with (first | (go_at_call 16; refine (num_any _ _).mono ?_; rintro e w' ⟨rfl, rfl⟩) | (go_at_call 12; refine (HW.out _).mono ?_; rintro e w' ⟨rfl, hb⟩))
              go_ret
              exact ⟨rfl, HB5.out.trans (hb.mono HB5.out.size)⟩
            | cons y t =>
              have hy := HFi.out.2 y t rfl
              obtain ⟨b, off, rfl, _, c0⟩ := HC5.out 0 (.int .i64 y.lit) rfl
              rw [Nat.add_zero] at c0
              have hly : (0 : Int) < ((y :: t).length : Int) := by simp only [List.length_cons]; omega
              have hle : y.lit ≤ (D.length : Int) := by omega
              have hne : ¬ ((y :: t).length : Int) = 0 := by omega
              have hnb : (((y :: t).length : Int) == 0) = false := beq_eq_false_iff_ne.2 hne
              have HFi2 := hid HFi.out
              generalize hyt : (y :: t).length = n at *
              generalize y.lit = yl at *
              clear hy HFi HC5 hyt
              go_wp2_with (first | (go_at_call 16; refine (num_any _ _).mono ?_; rintro e w' ⟨rfl, rfl⟩) | (go_at_call 12; refine (HW.out _).mono ?_; rintro e w' ⟨rfl, hb⟩))
              go_ret
              exact ⟨rfl, HB5.out.trans (hb.mono HB5.out.size)⟩
          | cons x r =>
            obtain ⟨y, t, rfl, hyx⟩ := HFi.out.1 x r rfl
            obtain ⟨bx, ox, rfl, _, x0⟩ := HL4.out 0 (.int .i64 x.lit) rfl
            rw [Nat.add_zero] at x0
            have hlx : (0 : Int) < ((x :: r).length : Int) := by simp only [List.length_cons]; omega
            have hnx : (((x :: r).length : Int) == 0) = false := beq_eq_false_iff_ne.2 (by omega)
            have hly : (0 : Int) < ((y :: t).length : Int) := by simp only [List.length_cons]; omega
            have hny : (((y :: t).length : Int) == 0) = false := beq_eq_false_iff_ne.2 (by omega)
            have HC := hid (fun (w5 : World) a5 (h : CellsAt w5 a5 ((y :: t).flatMap sqc)) => h 0 (.int .i64 y.lit) rfl)
            generalize (x :: r).length = nx at *
            generalize (y :: t).length = ny at *
            generalize hxl : x.lit = xl at *
            generalize hyl : y.lit = yl at *
            clear HR HFi hxl hyl
            go_wp2_with fail
            refine HPq.out.mono ?_
            rintro e w5 ⟨v5, rfl, hown, hb⟩
            obtain ⟨a5, c5, rfl⟩ := own_slice hown
            obtain ⟨b, off, rfl, _, c0⟩ := HC.out _ _ ((Sl.of_owns hown).cells' rfl)
            rw [Nat.add_zero] at c0
            have HB5 := hid (HB4.out.trans (hb.mono HB4.out.size))
            clear hown hb HL4 HB4 HPq x0 HC
            go_wp2_with (first | (go_at_call 16; refine (num_any _ _).mono ?_; rintro e w' ⟨rfl, rfl⟩) | (go_at_call 12; refine (HW.out _).mono ?_; rintro e w' ⟨rfl, hb⟩))
            go_ret
            exact ⟨rfl, HB5.out.trans (hb.mono HB5.out.size)⟩
end Go.Proofs.Ytngphgdoolcpcaa
namespace Go.Proofs.Ytngphgdoolcpcaa.LGreedyLeast
open Go.ChangeShapes Go.WideShapes Go.ChangeAt Go.RowKit Go.Port

set_option maxRecDepth 100000 in
theorem lifted (os : Os) (started : os.Started) (H : Type) (enc : TypeId × Value → H) :
    ReturnsInHanded {} Try.checked os 7 .any (Rows.greedyLeastSpec.pre6 enc Try.prog Try.f7 Rows.greedyLeastRow.domain false) (Rows.greedyLeastSpec.post enc Try.prog Try.f7 false true false false) := by
  refine returnsInHanded_of_change (C := Try.checked) Try.own started (by kernel_rfl) Try.func7
    (ChangeSpec.witness6 (enc := enc) (C := Try.checked) false ⟨#[], #[.slice none 0 0, .slice none 0 0, .int .i64 0, .int .i64 0, .int .i64 0, .int .i64 0], []⟩ 8 (by kernel_rfl) (by kernel_rfl) (by kernel_rfl) (by kernel_rfl)) ?_
  intro W base args ds gs before hval0 hW hcnd _
  have hval : ∀ (j : Nat) t v, Try.f7.params[j]? = some t → args[j]? = some v → Value.okWide Try.prog W .any base t v := hval0
  have hW' := hW
  obtain ⟨p, q, hA0, hV, rfl, hfz, hnd⟩ := hW
  have hA : DataW.TrodAll enc Try.prog W 0 (fun _ => true) true Try.f7.params.toList args.toList ds p := hA0
  rw [Try.params7] at hA hval
  obtain ⟨v0, vs0, d0, ds0, p0, q0, hargs, rfl, rfl, h0, r0⟩ := trodAll_cons hA
  obtain ⟨v1, vs1, d1, ds1, p1, q1, rfl, rfl, rfl, h1, r1⟩ := trodAll_cons r0
  obtain ⟨v2, vs2, d2, ds2, p2, q2, rfl, rfl, rfl, h2, r2⟩ := trodAll_cons r1
  obtain ⟨v3, vs3, d3, ds3, p3, q3, rfl, rfl, rfl, h3, r3⟩ := trodAll_cons r2
  obtain ⟨v4, vs4, d4, ds4, p4, q4, rfl, rfl, rfl, h4, r4⟩ := trodAll_cons r3
  obtain ⟨v5, vs5, d5, ds5, p5, q5, rfl, rfl, rfl, h5, r5⟩ := trodAll_cons r4
  obtain ⟨rfl, rfl, rfl⟩ := trodAll_nil r5
  obtain rfl : args = #[v0, v1, v2, v3, v4, v5] := by cases args; simp_all
  obtain ⟨rfl, rfl⟩ := trodVars_none hV
  obtain ⟨l0, hl0, wl0⟩ := open_rowV Try.underlying22 Try.underlying5 (by kernel_rfl) (hval 0 22 v0 rfl rfl) h0
  obtain ⟨bs0, hbs0, hn0⟩ := bytes_of wl0
  rw [hbs0, ← hn0] at hl0
  obtain ⟨l1, hl1, wl1⟩ := open_rowV Try.underlying22 Try.underlying5 (by kernel_rfl) (hval 1 22 v1 rfl rfl) h1
  obtain ⟨bs1, hbs1, hn1⟩ := bytes_of wl1
  rw [hbs1, ← hn1] at hl1
  obtain ⟨a2, rfl, rfl, rfl, w2⟩ := open_int Try.underlying3 (hval 2 3 v2 rfl rfl) h2
  obtain ⟨a3, rfl, rfl, rfl, w3⟩ := open_int Try.underlying3 (hval 3 3 v3 rfl rfl) h3
  obtain ⟨a4, rfl, rfl, rfl, w4⟩ := open_int Try.underlying3 (hval 4 3 v4 rfl rfl) h4
  obtain ⟨a5, rfl, rfl, rfl, w5⟩ := open_int Try.underlying3 (hval 5 3 v5 rfl rfl) h5
  clear hA0 hval0
  simp only [List.append_nil] at hW'
  refine (GreedyLeast_walk W v0 bs0 hl0 v1 bs1 hl1 a2 a3 a4 a5).mono fun e W' ⟨he, hb⟩ => ?_
  subst he
  exact ⟨_, rfl, law_post Try.kids Try.full Try.underlying4 rfl rfl hW' (by rw [Try.params7]; decide) rfl rfl rfl hb⟩

theorem over : Rows.greedyLeastRow.holds Try.pinned (OpenSpec.ofChange Rows.greedyLeastSpec) :=
  OpenClaim.holds_of_wide 7 Try.f7 rfl rfl rfl rfl rfl rfl rfl ⟨rfl, rfl, rfl, rfl, rfl⟩ rfl rfl rfl rfl rfl (by kernel_rfl) Try.func7 (by kernel_rfl)
    (of_decide_eq_true (by kernel_rfl)) (by unfold Func.isWrapper; first | (rw [if_pos (by decide +kernel)]; kernel_rfl) | (rw [if_neg (by decide +kernel)]; exact ⟨rfl, rfl⟩))
    (fun os started H enc _ => lifted os started H enc)

/-- The statement. -/
theorem proved : Rows.GreedyLeastSaid :=
  over
end Go.Proofs.Ytngphgdoolcpcaa.LGreedyLeast
