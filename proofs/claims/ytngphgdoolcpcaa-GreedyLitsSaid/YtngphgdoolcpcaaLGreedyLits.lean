/-
  The law GreedyLits: for at most 200 bytes each of history and data, no sufficiently long match is found at a literal of a greedy plan, and every match is the one found at its position. No condition.
-/
import Derived.Test.YtngphgdoolcpcaaPlanGap
namespace Go.Proofs.Ytngphgdoolcpcaa
open Go.RowKit Go.Port

set_option maxRecDepth 100000 in
set_option maxHeartbeats 8000000 in
theorem GreedyLits_walk (w : World) (v1 : Value) (A : List UInt8) (h1 : Rs w 1 v1 A.length (A.map bv)) (v2 : Value) (D : List UInt8) (h2 : Rs w 1 v2 D.length (D.map bv)) (W dep least : Int) :
    Calls Try.prog 5 #[v1, v2, .int .i64 W, .int .i64 dep, .int .i64 least] w (RetV w (.bool true)) := by
  have HW := hid works_any
  have HM := hid (made_any v1 v2 A D W dep w h1 h2)
  obtain ⟨_, av2, cv2, rfl, _⟩ := h2
  clear h1
  generalize hbs : A ++ D = bs at *
  go_enter Try.func5, Try.ntmps5
  go_wp2_with fail
  refine HM.out.mono ?_
  rintro e w1 (⟨rfl, hb⟩ | ⟨hm, F, a, c, rfl, hF, hC, hac, hb⟩)
  · have HB := hid (hb.alloc hb.size (.cells #[.slice none 0 0, .int .i64 0, .int .i64 0, .int .i64 0] 25))
    unfold fdv
    clear hb HM hbs
    go_wp2_with (go_at_call 12; refine (HW.out _).mono ?_; rintro e w' ⟨rfl, hb⟩)
    go_ret
    exact ⟨rfl, HB.out.trans (hb.mono HB.out.size)⟩
  · have hA := hm.hA
    have hD := hm.hD
    have hlen : bs.length = A.length + D.length := by rw [← hbs, List.length_append]
    have HFx := hid (hF.low (below_new w1 (.cells (fdc a bs.length c A.length W dep).toArray 25)))
    have HB1 := hid (hb.alloc hb.size (.cells (fdc a bs.length c A.length W dep).toArray 25))
    unfold fdc at HFx HB1
    unfold fdv
    clear hF hb hC HM hbs hac
    by_cases g1 : least < 3
    · clear hA hD hlen hm
      go_wp2_with (go_at_call 12; refine (HW.out _).mono ?_; rintro e w' ⟨rfl, hb⟩)
      go_ret
      exact ⟨rfl, HB1.out.trans (hb.mono HB1.out.size)⟩
    · have HPm := hid (fun W' hF' => gmin_any bs A.length W dep F least W' hF')
      rw [fromE_zero (by omega) (Int.le_refl _) (by omega)] at HPm
      have hL := fromL_length bs A.length W dep 0 least
      have hR := fun k hk => @fromL_rest bs A.length W dep least (by omega) (by omega) k hk
      have hGp := fun k hk => @fromL_gap bs A.length W dep least (by omega) (by omega) k hk
      have hln : (fromL bs A.length W dep 0 least).length = (seqs (fromL bs A.length W dep 0 least)).length := by unfold seqs; rw [List.length_map]
      rw [hln] at hL
      have hin := seqs_pos (bs := bs) (A := A.length) (W := W) (D := dep) (p := 0) (least := least)
      have hsz : (bs.length : Int) - (A.length : Int) = (D.length : Int) := by omega
      have HFi := hid (fun W' q hF' => cfind_any bs A.length W dep F q W' hF')
      have HFo := hid (fun q s => @findS_form bs A.length W dep q s)
      rw [hsz] at hR hGp HFo
      generalize seqs (fromL bs A.length W dep 0 least) = L at *
      generalize findS bs A.length W dep = find at *
      have HR := hid (fun k hk => (hR k hk).2)
      have HGp := hid hGp
      have hLn : L.length ≤ 400 := by omega
      have HIn := hid hin
      have HD := hid hD
      have HG1 := hid g1
      clear hA hD hlen hm hL hR hGp hln hin hsz
      go_wp2_with fail
      refine (HPm.out _ HFx.out).mono ?_
      rintro e w2 ⟨v2, rfl, hown, hb⟩
      obtain ⟨a2, c2, rfl⟩ := own_slice hown
      have HL2 := hid ((Sl.of_owns hown).cells' rfl)
      have HB2 := hid (HB1.out.trans (hb.mono HB1.out.size))
      have HF2 := hid (HFx.out.low hb)
      clear hown hb HFx HB1 HPm
      go_wp2_with (go_at_call 16; refine (num_any _ _).mono ?_; rintro e w' ⟨rfl, rfl⟩)
      go_loopw [16, 17] (fun t i wr => ∃ j : Nat, j ≤ L.length + 1 ∧ i = .int .i64 (j : Int) ∧ t = .int .i64 (if j ≤ L.length then endOf 0 (L.take j) else (D.length : Int)) ∧ Below w2.heap.size w2 wr) (fun _ i _ => L.length + 1 - (intOf i).toNat)
      case atStart => exact ⟨0, Nat.zero_le _, rfl, by rw [if_pos (Nat.zero_le _)]; rfl, Below.refl _ _⟩
      case round =>
        obtain ⟨j, hj, rfl, rfl, hBr⟩ := hrel
        have HBr := hid hBr
        clear hBr
        generalize wr = w3 at *
        have HB3 := hid HBr.out
        clear HBr
        by_cases hjL : j ≤ L.length
        · rw [if_pos hjL]
          have hr := HR.out j hjL
          have hgp := HGp.out j hjL
          have hD := HD.out
          by_cases hjl : j < L.length
          · obtain ⟨x, hx⟩ : ∃ x, L[j]? = some x := ⟨L[j], by simp [hjl]⟩
            obtain ⟨bl, off, rfl, hbl, c0⟩ := HL2.out (j * 3 + 0) (.int .i64 x.lit) (by rw [sqc_get hx 0 (by omega)]; rfl)
            obtain ⟨_, _, e1, _, c1⟩ := HL2.out (j * 3 + 1) (.int .i64 x.len) (by rw [sqc_get hx 1 (by omega)]; rfl)
            cases e1
            obtain ⟨_, _, e1, _, c2⟩ := HL2.out (j * 3 + 2) (.int .i64 x.off) (by rw [sqc_get hx 2 (by omega)]; rfl)
            cases e1
            rw [Nat.add_zero] at c0
            rw [← Nat.add_assoc] at c1 c2
            have HCs := hid (fun (W' : World) (hW : Below w2.heap.size w2 W') => And.intro ((hW.cell (p := ⟨bl, off + j * 3 + 1, none⟩) hbl).trans c1) ((hW.cell (p := ⟨bl, off + j * 3 + 2, none⟩) hbl).trans c2))
            replace c0 := (HB3.out.cell (p := ⟨bl, off + j * 3, none⟩) hbl).trans c0
            have hst : L.take (j + 1) = L.take j ++ [x] := by
              obtain ⟨h1, h2⟩ := List.getElem?_eq_some_iff.1 hx
              rw [List.take_succ_eq_append_getElem h1, h2]
            have hen : endOf 0 (L.take (j + 1)) = endOf 0 (L.take j) + x.lit + x.len := by rw [hst, endOf_snoc]
            have hps := HIn.out x (List.mem_of_getElem? hx)
            obtain ⟨hg1, hg2⟩ := hgp.1 x hx
            have hfo := HFo.out _ _ hg2
            obtain ⟨xl, xn, xo⟩ := x
            dsimp only at c0 hen hps hg1 hg2 hfo HCs
            obtain ⟨lits, rfl⟩ : ∃ n : Nat, xl = (n : Int) := ⟨xl.toNat, by omega⟩
            have hEn := hid hen
            generalize endOf 0 (L.take j) = e0 at *
            generalize hE1 : endOf 0 (L.take (j + 1)) = e1 at *
            have HE1 := hid hE1
            have HSum := hid (show 0 ≤ e0 ∧ e0 + (lits : Int) ≤ 200 by omega)
            have HGap := hid hg1
            have HFd := hid hg2
            have HJ := hid hjl
            have HXn := hid (show least ≤ xn ∧ e0 + (lits : Int) + xn = e1 ∧ e1 ≤ 200 by omega)
            have hjI : (j : Int) < (L.length : Int) := by omega
            have hjI2 : (j : Int) ≤ (L.length : Int) := by omega
            have hw1 : IntKind.i64.wrap ((D.length : Int) - e0) = (D.length : Int) - e0 := by rw [IntKind.wrap_i64]; omega
            have ht1 : ¬ (lits : Int) < 0 := by omega
            have ht2 : ¬ (D.length : Int) - e0 < (lits : Int) := by omega
            clear hE1 hen hr hps hst hx hj hjl hD hg1 hg2 hfo hgp c1 c2 hjL
            go_wp2_with fail
            clear c0 ht1 ht2 hw1
            go_loopw [19] (fun i wr => ∃ q : Nat, q ≤ lits ∧ i = .int .i64 (q : Int) ∧ Below w2.heap.size w2 wr) (fun i _ => lits - (intOf i).toNat)
            case atStart => exact ⟨0, Nat.zero_le _, rfl, HB3.out⟩
            case round =>
              obtain ⟨q, hq, rfl, hBq⟩ := hrel
              have HBq := hid hBq
              clear hBq
              by_cases hql : q < lits
              · have hqI : (q : Int) < (lits : Int) := by omega
                have hsum := HSum.out
                have hw2 : IntKind.i64.wrap (e0 + (q : Int)) = e0 + (q : Int) := by rw [IntKind.wrap_i64]; omega
                have hw5 : IntKind.i64.wrap ((q : Int) + 1) = ((q + 1 : Nat) : Int) := by rw [IntKind.wrap_i64]; omega
                have HCall := hid (HFi.out wr (e0 + (q : Int)) (HF2.out.low HBq.out))
                have hgap := HGap.out (e0 + (q : Int)) (by omega) (by omega)
                have HQ := hid hql
                unfold sqv at HCall
                clear hsum hq hql
                cases ho : find (e0 + (q : Int)) with
                | none =>
                  rw [ho] at HCall
                  clear hgap ho
                  go_wp2_with fail
                  refine HCall.out.mono ?_
                  rintro e w5 ⟨rfl, hb⟩
                  dsimp only [Option.getD, Option.isSome, Sq.zero]
                  have HB5 := hid (HBq.out.trans ((hb.alloc hb.size (.cells #[.int .i64 0, .int .i64 0, .int .i64 0] 45)).mono HBq.out.size))
                  clear hb
                  go_wp2
                  go_roundw
                  case rel => exact ⟨q + 1, HQ.out, rfl, HB5.out⟩
                  case measure => have := HQ.out; simp [intOf]; omega
                | some t =>
                  rw [ho] at HCall
                  obtain ⟨tl, tn, tf⟩ := t
                  have hlt : ¬ least ≤ tn := by have := hgap ⟨tl, tn, tf⟩ ho; dsimp only at this; omega
                  dsimp only [Option.getD, Option.isSome] at HCall
                  clear hgap ho
                  go_wp2_with fail
                  refine HCall.out.mono ?_
                  rintro e w5 ⟨rfl, hb⟩
                  have HB5 := hid (HBq.out.trans ((hb.alloc hb.size (.cells #[.int .i64 tl, .int .i64 tn, .int .i64 tf] 45)).mono HBq.out.size))
                  clear hb
                  go_wp2
                  go_roundw
                  case rel => exact ⟨q + 1, HQ.out, rfl, HB5.out⟩
                  case measure => have := HQ.out; simp [intOf]; omega
              · obtain rfl : q = lits := by omega
                clear hq hql
                have hsum := HSum.out
                have hxn := HXn.out
                have hjI3 : (j : Int) < (L.length : Int) := by have := HJ.out; omega
                have hw3 : IntKind.i64.wrap (e0 + (q : Int)) = e0 + (q : Int) := by rw [IntKind.wrap_i64]; omega
                have hw4 : IntKind.i64.wrap (e0 + (q : Int) + xn) = e1 := by rw [IntKind.wrap_i64]; omega
                have hln : least ≤ xn := hxn.1
                clear hxn
                have HCall := hid (HFi.out wr (e0 + (q : Int)) (HF2.out.low HBq.out))
                rw [HFd.out] at HCall
                unfold sqv at HCall
                dsimp only [Option.getD, Option.isSome] at HCall
                clear hsum
                go_wp2_with fail
                refine HCall.out.mono ?_
                rintro e w5 ⟨rfl, hb⟩
                have hb5 := HBq.out.trans (hb.mono HBq.out.size)
                have hb6 := hb5.alloc hb5.size (.cells #[.int .i64 0, .int .i64 xn, .int .i64 xo] 45)
                have HB6 := hid hb6
                have HY := hid (Blk.new w5 [.int .i64 0, .int .i64 xn, .int .i64 xo] 45)
                clear hb hb5 hb6 HCall
                obtain ⟨d1, d2⟩ := HCs.out _ HB6.out
                go_upto_region 25 with fail
                generalize (w5.alloc (.cells #[.int .i64 0, .int .i64 xn, .int .i64 xo] 45)) = w6 at *
                generalize w5.heap.size = G at *
                have y1 := HY.out.cell (k := 1) rfl
                have y2 := HY.out.cell (k := 2) rfl
                go_wp2_with fail
                have hdec : decide (xn < least) = false := decide_eq_false (by omega)
                go_quiet (fail)
                clear hdec
                have hB7 := below_drewN HB6.out nq
                have hY7 : Blk (w6.drewN nq) G [.int .i64 0, .int .i64 xn, .int .i64 xo] 45 := HY.out
                have HB7 := hid hB7
                generalize w6.drewN nq = w7 at *
                have y3 := hY7.cell (k := 1) rfl
                clear y1 y2 d1 d2 hB7 hY7 HY HB6
                go_wp2
                go_roundw
                case rel => exact ⟨j + 1, by have := HJ.out; omega, by go_num, by rw [if_pos (by have := HJ.out; omega), HE1.out], HB7.out⟩
                case measure => have := HJ.out; simp [intOf]; omega
          · obtain rfl : j = L.length := by omega
            have hgl := hgp.2 rfl
            rw [List.take_of_length_le (Nat.le_refl _)] at hr hgl ⊢
            obtain ⟨lits, hlits⟩ : ∃ n : Nat, (D.length : Int) - endOf 0 L = (n : Int) := ⟨((D.length : Int) - endOf 0 L).toNat, by omega⟩
            generalize endOf 0 L = e0 at *
            have HSum := hid (show 0 ≤ e0 ∧ e0 + (lits : Int) ≤ 200 by omega)
            have HGap := hid (show ∀ r, e0 ≤ r → r < e0 + (lits : Int) → ∀ t, find r = some t → t.len < least from fun r h1 h2 => hgl r h1 (by omega))
            have HEq := hid (show e0 + (lits : Int) = (D.length : Int) by omega)
            have hw1 : IntKind.i64.wrap ((D.length : Int) - e0) = (lits : Int) := by rw [IntKind.wrap_i64]; omega
            have ht1 : ¬ (lits : Int) < 0 := by omega
            clear hr hgl hgp hj hD hjl hjL hlits
            go_wp2_with fail
            clear ht1 hw1
            go_loopw [19] (fun i wr => ∃ q : Nat, q ≤ lits ∧ i = .int .i64 (q : Int) ∧ Below w2.heap.size w2 wr) (fun i _ => lits - (intOf i).toNat)
            case atStart => exact ⟨0, Nat.zero_le _, rfl, HB3.out⟩
            case round =>
              obtain ⟨q, hq, rfl, hBq⟩ := hrel
              have HBq := hid hBq
              clear hBq
              by_cases hql : q < lits
              · have hqI : (q : Int) < (lits : Int) := by omega
                have hsum := HSum.out
                have hw2 : IntKind.i64.wrap (e0 + (q : Int)) = e0 + (q : Int) := by rw [IntKind.wrap_i64]; omega
                have hw5 : IntKind.i64.wrap ((q : Int) + 1) = ((q + 1 : Nat) : Int) := by rw [IntKind.wrap_i64]; omega
                have HCall := hid (HFi.out wr (e0 + (q : Int)) (HF2.out.low HBq.out))
                have hgap := HGap.out (e0 + (q : Int)) (by omega) (by omega)
                have HQ := hid hql
                unfold sqv at HCall
                clear hsum hq hql
                cases ho : find (e0 + (q : Int)) with
                | none =>
                  rw [ho] at HCall
                  clear hgap ho
                  go_wp2_with fail
                  refine HCall.out.mono ?_
                  rintro e w5 ⟨rfl, hb⟩
                  dsimp only [Option.getD, Option.isSome, Sq.zero]
                  have HB5 := hid (HBq.out.trans ((hb.alloc hb.size (.cells #[.int .i64 0, .int .i64 0, .int .i64 0] 45)).mono HBq.out.size))
                  clear hb
                  go_wp2
                  go_roundw
                  case rel => exact ⟨q + 1, HQ.out, rfl, HB5.out⟩
                  case measure => have := HQ.out; simp [intOf]; omega
                | some t =>
                  rw [ho] at HCall
                  obtain ⟨tl, tn, tf⟩ := t
                  have hlt : ¬ least ≤ tn := by have := hgap ⟨tl, tn, tf⟩ ho; dsimp only at this; omega
                  dsimp only [Option.getD, Option.isSome] at HCall
                  clear hgap ho
                  go_wp2_with fail
                  refine HCall.out.mono ?_
                  rintro e w5 ⟨rfl, hb⟩
                  have HB5 := hid (HBq.out.trans ((hb.alloc hb.size (.cells #[.int .i64 tl, .int .i64 tn, .int .i64 tf] 45)).mono HBq.out.size))
                  clear hb
                  go_wp2
                  go_roundw
                  case rel => exact ⟨q + 1, HQ.out, rfl, HB5.out⟩
                  case measure => have := HQ.out; simp [intOf]; omega
              · obtain rfl : q = lits := by omega
                clear hq hql
                have hsum := HSum.out
                have hw3 : IntKind.i64.wrap (e0 + (q : Int)) = (D.length : Int) := by have := HEq.out; rw [IntKind.wrap_i64]; omega
                clear hsum
                go_wp2
                go_roundw
                case rel => exact ⟨L.length + 1, Nat.le_refl _, by go_num, by rw [if_neg (by omega)], HBq.out⟩
                case measure => simp [intOf]
        · rw [if_neg hjL]
          have ht : ¬ (j : Int) ≤ (L.length : Int) := by omega
          have HB9 := hid (HB2.out.trans (HB3.out.mono HB2.out.size))
          go_wp2_with (go_at_call 12; refine (HW.out _).mono ?_; rintro e w' ⟨rfl, hb⟩)
          go_ret
          exact ⟨rfl, HB9.out.trans (hb.mono HB9.out.size)⟩
end Go.Proofs.Ytngphgdoolcpcaa
namespace Go.Proofs.Ytngphgdoolcpcaa.LGreedyLits
open Go.ChangeShapes Go.WideShapes Go.ChangeAt Go.RowKit Go.Port

set_option maxRecDepth 100000 in
theorem lifted (os : Os) (started : os.Started) (H : Type) (enc : TypeId × Value → H) :
    ReturnsInHanded {} Try.checked os 5 .any (Rows.greedyLitsSpec.pre6 enc Try.prog Try.f5 Rows.greedyLitsRow.domain false) (Rows.greedyLitsSpec.post enc Try.prog Try.f5 false true false false) := by
  refine returnsInHanded_of_change (C := Try.checked) Try.own started (by kernel_rfl) Try.func5
    (ChangeSpec.witness6 (enc := enc) (C := Try.checked) false ⟨#[], #[.slice none 0 0, .slice none 0 0, .int .i64 0, .int .i64 0, .int .i64 0], []⟩ 8 (by kernel_rfl) (by kernel_rfl) (by kernel_rfl) (by kernel_rfl)) ?_
  intro W base args ds gs before hval0 hW hcnd _
  have hval : ∀ (j : Nat) t v, Try.f5.params[j]? = some t → args[j]? = some v → Value.okWide Try.prog W .any base t v := hval0
  have hW' := hW
  obtain ⟨p, q, hA0, hV, rfl, hfz, hnd⟩ := hW
  have hA : DataW.TrodAll enc Try.prog W 0 (fun _ => true) true Try.f5.params.toList args.toList ds p := hA0
  rw [Try.params5] at hA hval
  obtain ⟨v0, vs0, d0, ds0, p0, q0, hargs, rfl, rfl, h0, r0⟩ := trodAll_cons hA
  obtain ⟨v1, vs1, d1, ds1, p1, q1, rfl, rfl, rfl, h1, r1⟩ := trodAll_cons r0
  obtain ⟨v2, vs2, d2, ds2, p2, q2, rfl, rfl, rfl, h2, r2⟩ := trodAll_cons r1
  obtain ⟨v3, vs3, d3, ds3, p3, q3, rfl, rfl, rfl, h3, r3⟩ := trodAll_cons r2
  obtain ⟨v4, vs4, d4, ds4, p4, q4, rfl, rfl, rfl, h4, r4⟩ := trodAll_cons r3
  obtain ⟨rfl, rfl, rfl⟩ := trodAll_nil r4
  obtain rfl : args = #[v0, v1, v2, v3, v4] := by cases args; simp_all
  obtain ⟨rfl, rfl⟩ := trodVars_none hV
  obtain ⟨l0, hl0, wl0⟩ := open_rowV Try.underlying22 Try.underlying5 (by kernel_rfl) (hval 0 22 v0 rfl rfl) h0
  obtain ⟨bs0, hbs0, hn0⟩ := bytes_of wl0
  rw [hbs0, ← hn0] at hl0
  obtain ⟨l1, hl1, wl1⟩ := open_rowV Try.underlying22 Try.underlying5 (by kernel_rfl) (hval 1 22 v1 rfl rfl) h1
  obtain ⟨bs1, hbs1, hn1⟩ := bytes_of wl1
  rw [hbs1, ← hn1] at hl1
  obtain ⟨a2, rfl, rfl, rfl, w2⟩ := open_int Try.underlying3 (hval 2 3 v2 rfl rfl) h2
  obtain ⟨a3, rfl, rfl, rfl, w3⟩ := open_int Try.underlying3 (hval 3 3 v3 rfl rfl) h3
  obtain ⟨a4, rfl, rfl, rfl, w4⟩ := open_int Try.underlying3 (hval 4 3 v4 rfl rfl) h4
  clear hA0 hval0
  simp only [List.append_nil] at hW'
  refine (GreedyLits_walk W v0 bs0 hl0 v1 bs1 hl1 a2 a3 a4).mono fun e W' ⟨he, hb⟩ => ?_
  subst he
  exact ⟨_, rfl, law_post Try.kids Try.full Try.underlying4 rfl rfl hW' (by rw [Try.params5]; decide) rfl rfl rfl hb⟩

theorem over : Rows.greedyLitsRow.holds Try.pinned (OpenSpec.ofChange Rows.greedyLitsSpec) :=
  OpenClaim.holds_of_wide 5 Try.f5 rfl rfl rfl rfl rfl rfl rfl ⟨rfl, rfl, rfl, rfl, rfl⟩ rfl rfl rfl rfl rfl (by kernel_rfl) Try.func5 (by kernel_rfl)
    (of_decide_eq_true (by kernel_rfl)) (by unfold Func.isWrapper; first | (rw [if_pos (by decide +kernel)]; kernel_rfl) | (rw [if_neg (by decide +kernel)]; exact ⟨rfl, rfl⟩))
    (fun os started H enc _ => lifted os started H enc)

/-- The statement. -/
theorem proved : Rows.GreedyLitsSaid :=
  over
end Go.Proofs.Ytngphgdoolcpcaa.LGreedyLits
