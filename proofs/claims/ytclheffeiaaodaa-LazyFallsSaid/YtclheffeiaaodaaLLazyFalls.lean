/-
  The law LazyFalls: for at most 150 bytes each of history and data, the cost of Best does not increase with the lookahead. No condition.
-/
import Derived.Test.YtclheffeiaaodaaLzL
namespace Go.Port
open Go.RowKit
theorem leastGo_falls (f : Nat → Int) (k : Nat) : f (leastGo f (k + 1)) ≤ f (leastGo f k) := by
  cases k with
  | zero => rw [leastGo_one]; exact Int.le_refl _
  | succ k => exact leastGo_le f (k + 1 + 1) _ (Nat.lt_trans (leastGo_lt f k) (Nat.lt_succ_self _))
end Go.Port
namespace Go.Proofs.Ytclheffeiaaodaa
open Go.RowKit Go.Port

set_option maxRecDepth 100000 in
set_option maxHeartbeats 4000000 in
theorem LazyFalls_walk (w : World) (v1 : Value) (A : List UInt8) (h1 : Rs w 1 v1 A.length (A.map bv)) (v2 : Value) (D : List UInt8) (h2 : Rs w 1 v2 D.length (D.map bv)) (W dep far : Int) :
    Calls Try.prog 5 #[v1, v2, .int .i64 W, .int .i64 dep, .int .i64 far] w (RetV w (.bool true)) := by
  have HW := hid works_any
  have HM := hid (made_any v1 v2 A D W dep w h1 h2)
  clear h1 h2
  generalize hbs : A ++ D = bs at *
  go_enter Try.func5, Try.ntmps5
  go_wp2_with fail
  refine HM.out.mono ?_
  rintro e w1 (⟨rfl, hb⟩ | ⟨hm, F, a, c, rfl, hF, hC, hac, hb⟩)
  · have HB := hid (hb.alloc hb.size (.cells #[.slice none 0 0, .int .i64 0, .int .i64 0, .int .i64 0] 25))
    unfold fdv
    clear hb HM hbs
    go_wp2_with (go_at_call 12; refine (HW.out _).mono ?_; rintro e w' ⟨rfl, hb⟩)
    go_ret
    exact ⟨rfl, HB.out.trans (hb.mono HB.out.size)⟩
  · have hk := finderOk_bounds hm.hk
    have hA := hm.hA
    have hD := hm.hD
    have hlen : bs.length = A.length + D.length := by rw [← hbs, List.length_append]
    have HFx1 := hid (hF.low (below_new w1 (.cells (fdc a bs.length c A.length W dep).toArray 25)))
    have HBw1 := hid (hb.alloc hb.size (.cells (fdc a bs.length c A.length W dep).toArray 25))
    unfold fdc at HFx1 HBw1
    unfold fdv
    clear hF hb hC HM hac
    by_cases he : lazyE far = 0
    · obtain ⟨kf, rfl, hkf⟩ := lazyE_ok he
      have hf1 : ¬ (kf : Int) < 0 := by omega
      have hf2 : ¬ 8 < (kf : Int) := by omega
      have hkI : (kf : Int) ≤ 8 := by omega
      have hln : (lazyCs bs A.length W dep (kf + 1)).length = kf + 1 := lazyCs_length _ _ _ _ _
      have HCs := hid (fun W' hF' => lzcosts_ok bs A.length W dep F kf W' hF' (by omega) hkf)
      have HBs := hid (fun (k : Nat) (hk : k ≤ 8) W' hF' => (show Calls Try.prog 19 #[.pointer (some ⟨F, 0, none⟩), .int .i64 (k : Int)] W' (RetV W' (.tuple #[.int .i64 (leastGo (lazyC bs A.length W dep) (k + 1) : Nat), .int .i64 (lazyC bs A.length W dep (leastGo (lazyC bs A.length W dep) (k + 1))), .int .i64 0])) from by
        have := lzbest_any bs A.length W dep (k : Int) F W' hF' (by omega)
        unfold lazyBo lazyBp lazyB at this
        rw [lazyE_nat hk, if_pos rfl, if_pos rfl, Int.toNat_natCast] at this
        exact this))
      have HG := hid (fun k (hk : k < kf + 1) => lazyCs_get (bs := bs) (A := A.length) (W := W) (D := dep) (n := kf + 1) hk)
      generalize lazyCs bs A.length W dep (kf + 1) = L at *
      generalize lazyC bs A.length W dep = f at *
      clear hm hk hA hD hlen he hbs
      go_wp2_with fail
      refine (HCs.out _ HFx1.out).mono ?_
      rintro e w2 ⟨v, rfl, hown, hb⟩
      obtain ⟨b2, c2, rfl⟩ := own_slice hown
      have HP2 := hid ((Sl.of_owns hown).cells' rfl)
      have HBw2 := hid (HBw1.out.trans (hb.mono HBw1.out.size))
      have HFx2 := hid (HFx1.out.low hb)
      clear hown hb HBw1 HFx1
      have HC2 := hid (fun k (hk : k < kf + 1) => HP2.out k (iv (f k)) (by rw [List.getElem?_map, HG.out k hk]; rfl))
      obtain ⟨bl, of', rfl, _, x0⟩ := HC2.out 0 (Nat.succ_pos _)
      have hw1 : (((kf + 1 : Nat) : Int) != (kf : Int) + 1) = false := by simp
      have hpos : (0 : Int) < ((kf + 1 : Nat) : Int) := by omega
      rw [Nat.add_zero] at x0
      unfold iv at x0
      clear hln
      go_wp2_with (first | (go_at_call 16; refine (num_any _ _).mono ?_; rintro e w' ⟨rfl, rfl⟩))
      clear hw1 hpos hf1 hf2 x0
      go_loopw [16, 17] (fun t i wr => ∃ k : Nat, k ≤ kf + 1 ∧ i = .int .i64 (k : Int) ∧ t = .int .i64 (f (leastGo f k)) ∧ Below w2.heap.size w2 wr) (fun _ i _ => kf + 1 - (intOf i).toNat)
      case atStart => exact ⟨0, Nat.zero_le _, rfl, rfl, Below.refl _ _⟩
      case round =>
        obtain ⟨k, hk, rfl, rfl, hbr⟩ := hrel
        have HBr := hid hbr
        by_cases hlt : k ≤ kf
        · have HK := hid hlt
          have hkk : (k : Int) ≤ (kf : Int) := by omega
          have HBc := hid (HBs.out k (by omega) wr (HFx2.out.low hbr))
          have hfl := leastGo_falls f k
          have hlk := leastGo_le f (k + 1) k (Nat.lt_succ_self _)
          have hof := leastGo_lt f k
          obtain ⟨_, _, e1, hy1, y1⟩ := HC2.out (leastGo f (k + 1)) (by omega)
          cases e1
          obtain ⟨_, _, e1, hy2, y2⟩ := HC2.out k (by omega)
          cases e1
          replace y1 := (hbr.cell (p := ⟨bl, of' + leastGo f (k + 1), none⟩) hy1).trans y1
          replace y2 := (hbr.cell (p := ⟨bl, of' + k, none⟩) hy2).trans y2
          unfold iv at y1 y2
          generalize hq : f (leastGo f (k + 1)) = q at *
          have HQ := hid hq
          clear hq
          generalize hof2 : leastGo f (k + 1) = o at *
          have HO := hid hof2
          clear hof2
          generalize f (leastGo f k) = q0 at *
          have ht1 : ¬ q0 < q := by omega
          have ht2 : ¬ (o : Int) < 0 := by omega
          have ht3 : ¬ (k : Int) < (o : Int) := by omega
          generalize f k = fk at *
          have ht4 : ¬ fk < q := by omega
          have HY := hid (fun W' (hW' : Below wr.heap.size wr W') => And.intro ((hW'.cell (p := ⟨bl, of' + o, none⟩) (Nat.lt_of_lt_of_le hy1 hbr.size)).trans y1) ((hW'.cell (p := ⟨bl, of' + k, none⟩) (Nat.lt_of_lt_of_le hy2 hbr.size)).trans y2))
          have hoI : (o : Int) < ((kf + 1 : Nat) : Int) := by omega
          have hkI2 : (k : Int) < ((kf + 1 : Nat) : Int) := by omega
          clear hfl hlk hof hbr hk hlt y1 y2 hy1 hy2
          go_wp2_with fail
          refine HBc.out.mono ?_
          rintro e w3 ⟨rfl, hb3⟩
          obtain ⟨y1, y2⟩ := HY.out w3 hb3
          have HB3 := hid (HBr.out.trans (hb3.mono HBr.out.size))
          clear hb3
          go_wp2_with (first | (go_at_call 16; refine (num_any _ _).mono ?_; rintro e w' ⟨rfl, rfl⟩))
          go_roundw
          case rel => exact ⟨k + 1, by have := HK.out; omega, by go_num, by rw [HO.out, HQ.out], HB3.out⟩
          case measure => have := HK.out; simp [intOf]; omega
        · obtain rfl : k = kf + 1 := by omega
          have hkk : ¬ ((kf + 1 : Nat) : Int) ≤ (kf : Int) := by omega
          have HBf := hid (HBw2.out.trans (hbr.mono HBw2.out.size))
          clear hbr
          go_wp2_with fail
          refine (HW.out _).mono ?_
          rintro e w10 ⟨rfl, hb⟩
          go_wp2
          go_ret
          exact ⟨rfl, HBf.out.trans (hb.mono HBf.out.size)⟩
    · have hc := (lazyE_bad he).2
      clear hm hk hA hD hlen he hbs
      rcases hc with h1 | ⟨h1, h2⟩
      all_goals
        go_wp2_with (go_at_call 12; refine (HW.out _).mono ?_; rintro e w' ⟨rfl, hb⟩)
        go_ret
        exact ⟨rfl, HBw1.out.trans (hb.mono HBw1.out.size)⟩
end Go.Proofs.Ytclheffeiaaodaa
namespace Go.Proofs.Ytclheffeiaaodaa.LLazyFalls
open Go.ChangeShapes Go.WideShapes Go.ChangeAt Go.RowKit Go.Port

set_option maxRecDepth 100000 in
theorem lifted (os : Os) (started : os.Started) (H : Type) (enc : TypeId × Value → H) :
    ReturnsInHanded {} Try.checked os 5 .any (Rows.lazyFallsSpec.pre6 enc Try.prog Try.f5 Rows.lazyFallsRow.domain false) (Rows.lazyFallsSpec.post enc Try.prog Try.f5 false true false false) := by
  refine returnsInHanded_of_change (C := Try.checked) Try.own started (by kernel_rfl) Try.func5
    (ChangeSpec.witness6 (enc := enc) (C := Try.checked) false ⟨#[], #[.slice none 0 0, .slice none 0 0, .int .i64 0, .int .i64 0, .int .i64 0], []⟩ 8 (by kernel_rfl) (by kernel_rfl) (by kernel_rfl) (by kernel_rfl)) ?_
  intro W base args ds gs before hval0 hW hcnd _
  have hval : ∀ (j : Nat) t v, Try.f5.params[j]? = some t → args[j]? = some v → Value.okWide Try.prog W .any base t v := hval0
  have hW' := hW
  obtain ⟨p, q, hA0, hV, rfl, hfz, hnd⟩ := hW
  have hA : DataW.TrodAll enc Try.prog W 0 (fun _ => true) true Try.f5.params.toList args.toList ds p := hA0
  rw [Try.params5] at hA hval
  obtain ⟨v0, vs0, d0, ds0, p0, q0, hargs, rfl, rfl, h0, r0⟩ := trodAll_cons hA
  obtain ⟨v1, vs1, d1, ds1, p1, q1, rfl, rfl, rfl, h1, r1⟩ := trodAll_cons r0
  obtain ⟨v2, vs2, d2, ds2, p2, q2, rfl, rfl, rfl, h2, r2⟩ := trodAll_cons r1
  obtain ⟨v3, vs3, d3, ds3, p3, q3, rfl, rfl, rfl, h3, r3⟩ := trodAll_cons r2
  obtain ⟨v4, vs4, d4, ds4, p4, q4, rfl, rfl, rfl, h4, r4⟩ := trodAll_cons r3
  obtain ⟨rfl, rfl, rfl⟩ := trodAll_nil r4
  obtain rfl : args = #[v0, v1, v2, v3, v4] := by cases args; simp_all
  obtain ⟨rfl, rfl⟩ := trodVars_none hV
  obtain ⟨l0, hl0, wl0⟩ := open_rowV Try.underlying22 Try.underlying5 (by kernel_rfl) (hval 0 22 v0 rfl rfl) h0
  obtain ⟨bs0, hbs0, hn0⟩ := bytes_of wl0
  rw [hbs0, ← hn0] at hl0
  obtain ⟨l1, hl1, wl1⟩ := open_rowV Try.underlying22 Try.underlying5 (by kernel_rfl) (hval 1 22 v1 rfl rfl) h1
  obtain ⟨bs1, hbs1, hn1⟩ := bytes_of wl1
  rw [hbs1, ← hn1] at hl1
  obtain ⟨a2, rfl, rfl, rfl, w2⟩ := open_int Try.underlying3 (hval 2 3 v2 rfl rfl) h2
  obtain ⟨a3, rfl, rfl, rfl, w3⟩ := open_int Try.underlying3 (hval 3 3 v3 rfl rfl) h3
  obtain ⟨a4, rfl, rfl, rfl, w4⟩ := open_int Try.underlying3 (hval 4 3 v4 rfl rfl) h4
  clear hA0 hval0
  simp only [List.append_nil] at hW'
  refine (LazyFalls_walk W v0 bs0 hl0 v1 bs1 hl1 a2 a3 a4).mono fun e W' ⟨he, hb⟩ => ?_
  subst he
  exact ⟨_, rfl, law_post Try.kids Try.full Try.underlying4 rfl rfl hW' (by rw [Try.params5]; decide) rfl rfl rfl hb⟩

theorem over : Rows.lazyFallsRow.holds Try.pinned (OpenSpec.ofChange Rows.lazyFallsSpec) :=
  OpenClaim.holds_of_wide 5 Try.f5 rfl rfl rfl rfl rfl rfl rfl ⟨rfl, rfl, rfl, rfl, rfl⟩ rfl rfl rfl rfl rfl (by kernel_rfl) Try.func5 (by kernel_rfl)
    (of_decide_eq_true (by kernel_rfl)) (by unfold Func.isWrapper; first | (rw [if_pos (by decide +kernel)]; kernel_rfl) | (rw [if_neg (by decide +kernel)]; exact ⟨rfl, rfl⟩))
    (fun os started H enc _ => lifted os started H enc)

/-- The statement. -/
theorem proved : Rows.LazyFallsSaid :=
  over
end Go.Proofs.Ytclheffeiaaodaa.LLazyFalls
