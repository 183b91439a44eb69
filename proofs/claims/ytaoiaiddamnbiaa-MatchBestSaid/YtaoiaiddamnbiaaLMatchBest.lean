/-
  The law MatchBest: for at most 300 bytes, any position and limit, at most 60 candidates, the best match and the increasing matches are the reference's. No condition.
-/
import Derived.Test.YtaoiaiddamnbiaaMatchR
namespace Go.Port
open Go.RowKit
theorem best_some {b : List UInt8} {pos most : Int} {frm : List Int} : decide (0 < ((bestS b pos most frm).getD Sq.zero).len) = (bestS b pos most frm).isSome := by
  cases h : bestS b pos most frm with
  | none => rfl
  | some s =>
    have : 3 ≤ s.len := by
      unfold bestS at h
      split at h
      · cases h
      · split at h
        · cases h
        · cases h; omega
    simp only [Option.getD, Option.isSome]
    exact decide_eq_true (by omega)
end Go.Port
namespace Go.Proofs.Ytaoiaiddamnbiaa
open Go.RowKit Go.Port

set_option maxRecDepth 100000 in
set_option maxHeartbeats 4000000 in
theorem MatchBest_walk (w : World) (vb : Value) (bs : List UInt8) (hvb : Rs w 1 vb bs.length (bs.map bv)) (pos : Int) (_ : -9223372036854775808 ≤ pos ∧ pos ≤ 9223372036854775807) (most : Int) (_ : -9223372036854775808 ≤ most ∧ most ≤ 9223372036854775807) (v : Value) (l : List Int) (hv : Rs w 1 v l.length (l.map (Value.int .i64))) (_ : ∀ x ∈ l, -9223372036854775808 ≤ x ∧ x ≤ 9223372036854775807) :
    Calls Try.prog 4 #[vb, .int .i64 pos, .int .i64 most, v] w (RetV w (.bool true)) := by
  obtain ⟨_, a, c, rfl, hnc, hcm, hac, hcell⟩ := hv
  obtain ⟨_, ab, cb, rfl, hnb, hbm, hab, hbcell⟩ := hvb
  have HW := hid works_any
  by_cases h4 : 300 < bs.length
  · clear hcell hbcell
    go_enter Try.func4, Try.ntmps4
    go_wp2_with (go_at_call 11; refine (HW.out _).mono ?_; rintro e w' ⟨rfl, hb⟩)
    go_ret
    exact ⟨rfl, hb⟩
  · by_cases h5 : 60 < l.length
    · clear hcell hbcell
      go_enter Try.func4, Try.ntmps4
      go_wp2_with (go_at_call 11; refine (HW.out _).mono ?_; rintro e w' ⟨rfl, hb⟩)
      go_ret
      exact ⟨rfl, hb⟩
    · have HBe := hid (best_any ab a cb c bs pos most l w (by omega) hnb (by omega) hbcell hcell)
      have HRb := hid (fun W (hW : Below w.heap.size w W) => rbest_any ab a cb c bs pos most l W (by omega) (by omega) (at_same hbcell hW) (at_same hcell hW))
      have HI := hid (fun W (hW : Below w.heap.size w W) => increasing_any ab a cb c bs pos most l W (by omega) hnb (by omega) (at_same hbcell hW) (at_same hcell hW))
      have HRi := hid (fun W (hW : Below w.heap.size w W) => rising_any ab a cb c bs pos most l W (by omega) (by omega) (at_same hbcell hW) (at_same hcell hW))
      have e1 := refBest_eq bs pos most l
      have e2 := best_some (b := bs) (pos := pos) (most := most) (frm := l)
      rw [e1, e2] at HRb
      generalize (bestS bs pos most l).getD Sq.zero = s at HBe HRb
      generalize (bestS bs pos most l).isSome = B at HBe HRb
      have hRl : (incS bs pos most l).length ≤ 100 := by
        have := riseGo_len (matchesS bs pos most l) (l.length + 1) 0 2
        unfold incS
        omega
      generalize incS bs pos most l = R at *
      obtain ⟨sl, sn, so⟩ := s
      unfold sqv at HBe HRb
      dsimp only at HBe HRb
      clear e1 e2 hcell hbcell
      go_enter Try.func4, Try.ntmps4
      go_wp2_with fail
      refine HBe.out.mono ?_
      rintro e w1 ⟨rfl, hb1⟩
      have HB1 := hid (hb1.alloc hb1.size (.cells #[.int .i64 sl, .int .i64 sn, .int .i64 so] 28))
      have HX1 := hid (Blk.new w1 [.int .i64 sl, .int .i64 sn, .int .i64 so] 28)
      clear hb1 HBe
      go_wp2_with fail
      refine (HRb.out _ HB1.out).mono ?_
      rintro e w2 ⟨rfl, hb2⟩
      have hx2 := HX1.out.below hb2 HX1.out.lt
      have hbw2 := HB1.out.trans (hb2.mono HB1.out.size)
      have HX2 := hid (hx2.alloc (.cells #[.int .i64 sl, .int .i64 sn, .int .i64 so] 28))
      have HY2 := hid (Blk.new w2 [.int .i64 sl, .int .i64 sn, .int .i64 so] 28)
      have HB2 := hid (hbw2.alloc hbw2.size (.cells #[.int .i64 sl, .int .i64 sn, .int .i64 so] 28))
      clear hb2 hx2 hbw2 HX1 HB1 HRb
      go_wp2_with fail
      refine (HI.out _ HB2.out).mono ?_
      rintro e w3 ⟨v3, rfl, hown3, hb3⟩
      obtain ⟨a3, c3, rfl⟩ := own_slice hown3
      have HX3 := hid (HX2.out.below hb3 HX2.out.lt)
      have HY3 := hid (HY2.out.below hb3 HY2.out.lt)
      have HB3 := hid (HB2.out.trans (hb3.mono HB2.out.size))
      have HO3 := hid hown3
      clear hb3 hown3 HX2 HY2 HB2 HI
      go_wp2_with fail
      refine (HRi.out _ HB3.out).mono ?_
      rintro e w4 ⟨v4, rfl, hown4, hb4⟩
      obtain ⟨a4, c4, rfl⟩ := own_slice hown4
      have hx4 := HX3.out.below hb4 HX3.out.lt
      have hy4 := HY3.out.below hb4 HY3.out.lt
      have HB4 := hid (HB3.out.trans (hb4.mono HB3.out.size))
      have HC3 := hid (show ∀ j u, (R.flatMap sqc)[j]? = some u → ∃ bl off, a3 = some ⟨bl, off, none⟩ ∧ bl < w4.heap.size ∧ w4.cell? ⟨bl, off + j, none⟩ = some u from by
        obtain ⟨_, _, e, _, _, _, h⟩ := ((Sl.of_owns HO3.out).below hb4).open
        cases e
        exact h)
      have HC4 := hid (show ∀ j u, (R.flatMap sqc)[j]? = some u → ∃ bl off, a4 = some ⟨bl, off, none⟩ ∧ bl < w4.heap.size ∧ w4.cell? ⟨bl, off + j, none⟩ = some u from by
        obtain ⟨_, _, e, _, _, _, h⟩ := (Sl.of_owns hown4).open
        cases e
        exact h)
      have x0 := hx4.cell (k := 0) rfl
      have x1 := hx4.cell (k := 1) rfl
      have x2 := hx4.cell (k := 2) rfl
      have y0 := hy4.cell (k := 0) rfl
      have y1 := hy4.cell (k := 1) rfl
      have y2 := hy4.cell (k := 2) rfl
      clear hb4 hown4 HX3 HY3 HB3 HO3 HRi hx4 hy4
      generalize w1.heap.size = g1 at *
      generalize w2.heap.size = g2 at *
      cases B
      all_goals
        go_wp2
        go_loopw [15] (fun i wr => ∃ k m : Nat, k ≤ R.length ∧ i = .int .i64 k ∧ wr = w4.drewN m) (fun i _ => R.length - (intOf i).toNat)
        case atStart => exact ⟨0, 0, Nat.zero_le _, rfl, rfl⟩
        case round =>
          obtain ⟨k, m, hk, rfl, rfl⟩ := hrel
          by_cases hlt : k < R.length
          · obtain ⟨x, hx⟩ : ∃ x, R[k]? = some x := ⟨R[k], by simp [hlt]⟩
            obtain ⟨bl, off, rfl, _, c0⟩ := HC3.out (k * 3 + 0) (.int .i64 x.lit) (by rw [sqc_get hx 0 (by omega)]; rfl)
            obtain ⟨_, _, e1, _, c1⟩ := HC3.out (k * 3 + 1) (.int .i64 x.len) (by rw [sqc_get hx 1 (by omega)]; rfl)
            cases e1
            obtain ⟨_, _, e2, _, c2⟩ := HC3.out (k * 3 + 2) (.int .i64 x.off) (by rw [sqc_get hx 2 (by omega)]; rfl)
            cases e2
            obtain ⟨bl', off', rfl, _, d0⟩ := HC4.out (k * 3 + 0) (.int .i64 x.lit) (by rw [sqc_get hx 0 (by omega)]; rfl)
            obtain ⟨_, _, e3, _, d1⟩ := HC4.out (k * 3 + 1) (.int .i64 x.len) (by rw [sqc_get hx 1 (by omega)]; rfl)
            cases e3
            obtain ⟨_, _, e4, _, d2⟩ := HC4.out (k * 3 + 2) (.int .i64 x.off) (by rw [sqc_get hx 2 (by omega)]; rfl)
            cases e4
            rw [Nat.add_zero] at c0 d0
            rw [← Nat.add_assoc] at c1 c2 d1 d2
            have hkI : (k : Int) < (R.length : Int) := by omega
            obtain ⟨xl, xn, xo⟩ := x
            dsimp only at c0 c1 c2 d0 d1 d2
            clear hx
            go_wp2
            go_quiet (fail)
            go_wp2
            go_roundw
            case rel => exact ⟨k + 1, m + nq, hlt, by go_num, rfl⟩
            case measure => simp [intOf]; omega
          · obtain rfl : k = R.length := by omega
            have HB9 := hid (below_drewN HB4.out m)
            go_wp2_with fail
            refine (HW.out _).mono ?_
            rintro e w6 ⟨rfl, hb6⟩
            go_wp2
            go_ret
            exact ⟨rfl, HB9.out.trans (hb6.mono HB9.out.size)⟩
end Go.Proofs.Ytaoiaiddamnbiaa
namespace Go.Proofs.Ytaoiaiddamnbiaa.LMatchBest
open Go.ChangeShapes Go.WideShapes Go.ChangeAt Go.RowKit Go.Port

set_option maxRecDepth 100000 in
theorem lifted (os : Os) (started : os.Started) (H : Type) (enc : TypeId × Value → H) :
    ReturnsInHanded {} Try.checked os 4 .any (Rows.matchBestSpec.pre6 enc Try.prog Try.f4 Rows.matchBestRow.domain false) (Rows.matchBestSpec.post enc Try.prog Try.f4 false true false false) := by
  refine returnsInHanded_of_change (C := Try.checked) Try.own started (by kernel_rfl) Try.func4
    (ChangeSpec.witness6 (enc := enc) (C := Try.checked) false ⟨#[], #[.slice none 0 0, .int .i64 0, .int .i64 0, .slice none 0 0], []⟩ 8 (by kernel_rfl) (by kernel_rfl) (by kernel_rfl) (by kernel_rfl)) ?_
  intro W base args ds gs before hval0 hW hcnd _
  have hval : ∀ (j : Nat) t v, Try.f4.params[j]? = some t → args[j]? = some v → Value.okWide Try.prog W .any base t v := hval0
  have hW' := hW
  obtain ⟨p, q, hA0, hV, rfl, hfz, hnd⟩ := hW
  have hA : DataW.TrodAll enc Try.prog W 0 (fun _ => true) true Try.f4.params.toList args.toList ds p := hA0
  rw [Try.params4] at hA hval
  obtain ⟨v0, vs0, d0, ds0, p0, q0, hargs, rfl, rfl, h0, r0⟩ := trodAll_cons hA
  obtain ⟨v1, vs1, d1, ds1, p1, q1, rfl, rfl, rfl, h1, r1⟩ := trodAll_cons r0
  obtain ⟨v2, vs2, d2, ds2, p2, q2, rfl, rfl, rfl, h2, r2⟩ := trodAll_cons r1
  obtain ⟨v3, vs3, d3, ds3, p3, q3, rfl, rfl, rfl, h3, r3⟩ := trodAll_cons r2
  obtain ⟨rfl, rfl, rfl⟩ := trodAll_nil r3
  obtain rfl : args = #[v0, v1, v2, v3] := by cases args; simp_all
  obtain ⟨rfl, rfl⟩ := trodVars_none hV
  obtain ⟨l0, hl0, wl0⟩ := open_rowV Try.underlying22 Try.underlying5 (by kernel_rfl) (hval 0 22 v0 rfl rfl) h0
  obtain ⟨bs0, hbs0, hn0⟩ := bytes_of wl0
  rw [hbs0, ← hn0] at hl0
  obtain ⟨a1, rfl, rfl, rfl, w1⟩ := open_int Try.underlying3 (hval 1 3 v1 rfl rfl) h1
  obtain ⟨a2, rfl, rfl, rfl, w2⟩ := open_int Try.underlying3 (hval 2 3 v2 rfl rfl) h2
  obtain ⟨l3, hl3, wl3⟩ := open_rowV Try.underlying26 Try.underlying3 (by kernel_rfl) (hval 3 26 v3 rfl rfl) h3
  clear hA0 hval0
  simp only [List.append_nil] at hW'
  refine (MatchBest_walk W v0 bs0 hl0 a1 (bounds_i64 w1) a2 (bounds_i64 w2) v3 l3 hl3 (fun x hx => bounds_i64 (wl3 x hx))).mono fun e W' ⟨he, hb⟩ => ?_
  subst he
  exact ⟨_, rfl, law_post Try.kids Try.full Try.underlying4 rfl rfl hW' (by rw [Try.params4]; decide) rfl rfl rfl hb⟩

theorem over : Rows.matchBestRow.holds Try.pinned (OpenSpec.ofChange Rows.matchBestSpec) :=
  OpenClaim.holds_of_wide 4 Try.f4 rfl rfl rfl rfl rfl rfl rfl ⟨rfl, rfl, rfl, rfl, rfl⟩ rfl rfl rfl rfl rfl (by kernel_rfl) Try.func4 (by kernel_rfl)
    (of_decide_eq_true (by kernel_rfl)) (by unfold Func.isWrapper; first | (rw [if_pos (by decide +kernel)]; kernel_rfl) | (rw [if_neg (by decide +kernel)]; exact ⟨rfl, rfl⟩))
    (fun os started H enc _ => lifted os started H enc)

/-- The statement. -/
theorem proved : Rows.MatchBestSaid :=
  over
end Go.Proofs.Ytaoiaiddamnbiaa.LMatchBest
