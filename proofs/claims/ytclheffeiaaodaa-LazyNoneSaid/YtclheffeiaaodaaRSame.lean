/-
  The walk of the reference of layer 30: equal plans.
-/
import Derived.Test.YtclheffeiaaodaaPlanFrom
import Derived.Test.YtclheffeiaaodaaMem
namespace Go.Proofs.Ytclheffeiaaodaa
open Go.RowKit Go.Port

set_option maxRecDepth 100000 in
set_option maxHeartbeats 4000000 in
theorem rsame_any (a1 a2 : Option Addr) (c1 c2 : Nat) (l1 l2 : List Sq) (w : World) (hl1 : l1.length ≤ 1000000) (hl2 : l2.length ≤ 1000000) (hc1 : CellsAt w a1 (l1.flatMap sqc)) (hc2 : CellsAt w a2 (l2.flatMap sqc)) :
    Calls Try.prog 15 #[.slice a1 l1.length c1, .slice a2 l2.length c2] w fun e w' => e = .returned (.bool (decide (l1 = l2))) ∧ ∃ m, w' = w.drewN m := by
  have HC1 := hid hc1
  have HC2 := hid hc2
  clear hc1 hc2
  by_cases hn : l1.length = l2.length
  · have hnI : (l1.length : Int) = (l2.length : Int) := by omega
    have hne : ((l1.length : Int) == (l2.length : Int)) = true := by simp [hn]
    generalize hd : decide (l1 = l2) = d
    have HD := hid hd
    have HN := hid hn
    clear hd hn
    go_enter Try.func15, Try.ntmps15
    go_wp2
    clear hnI hne
    go_loopw [5] (fun i wr => ∃ k : Nat, k ≤ l1.length ∧ i = .int .i64 k ∧ Hid (l1.take k = l2.take k) ∧ ∃ m, wr = w.drewN m) (fun i _ => l1.length - (intOf i).toNat)
    case atStart => exact ⟨0, Nat.zero_le _, rfl, hid rfl, 0, rfl⟩
    case round =>
      obtain ⟨k, hk, rfl, HT, m, rfl⟩ := hrel
      by_cases hlt : k < l1.length
      · have hn2 := HN.out
        obtain ⟨x, hx⟩ : ∃ x, l1[k]? = some x := ⟨l1[k], by simp [hlt]⟩
        obtain ⟨y, hy⟩ : ∃ y, l2[k]? = some y := ⟨l2[k]'(by omega), by simp [show k < l2.length by omega]⟩
        obtain ⟨b1, o1, rfl, hb1, x0⟩ := HC1.out (k * 3 + 0) (.int .i64 x.lit) (by rw [sqc_get hx 0 (by omega)]; rfl)
        obtain ⟨_, _, e, _, x1⟩ := HC1.out (k * 3 + 1) (.int .i64 x.len) (by rw [sqc_get hx 1 (by omega)]; rfl)
        cases e
        obtain ⟨_, _, e, _, x2⟩ := HC1.out (k * 3 + 2) (.int .i64 x.off) (by rw [sqc_get hx 2 (by omega)]; rfl)
        cases e
        obtain ⟨b2, o2, rfl, hb2, y0⟩ := HC2.out (k * 3 + 0) (.int .i64 y.lit) (by rw [sqc_get hy 0 (by omega)]; rfl)
        obtain ⟨_, _, e, _, y1⟩ := HC2.out (k * 3 + 1) (.int .i64 y.len) (by rw [sqc_get hy 1 (by omega)]; rfl)
        cases e
        obtain ⟨_, _, e, _, y2⟩ := HC2.out (k * 3 + 2) (.int .i64 y.off) (by rw [sqc_get hy 2 (by omega)]; rfl)
        cases e
        rw [Nat.add_zero] at x0 y0
        rw [← Nat.add_assoc] at x1 x2 y1 y2
        have hkI : (k : Int) < (l1.length : Int) := by omega
        have hkI2 : (k : Int) < (l2.length : Int) := by omega
        have hst1 : l1.take (k + 1) = l1.take k ++ [x] := by
          obtain ⟨h1, h2⟩ := List.getElem?_eq_some_iff.1 hx
          rw [List.take_succ_eq_append_getElem h1, h2]
        have hst2 : l2.take (k + 1) = l2.take k ++ [y] := by
          obtain ⟨h1, h2⟩ := List.getElem?_eq_some_iff.1 hy
          rw [List.take_succ_eq_append_getElem h1, h2]
        by_cases hxy : x = y
        · have HT2 := hid (show l1.take (k + 1) = l2.take (k + 1) by rw [hst1, hst2, HT.out, hxy])
          subst hxy
          obtain ⟨xl, xn, xo⟩ := x
          dsimp only at x0 x1 x2 y0 y1 y2
          clear hx hy hst1 hst2 HT hn2
          go_wp2_with fail
          go_quiet (fail)
          go_wp2
          go_roundw
          case rel => exact ⟨k + 1, hlt, by go_num, HT2, m + nq, rfl⟩
          case measure => simp [intOf]; omega
        · have hdf : d = false := by
            rw [← HD.out, decide_eq_false_iff_not]
            intro e
            subst e
            rw [hx] at hy
            cases hy
            exact hxy rfl
          subst hdf
          obtain ⟨xl, xn, xo⟩ := x
          obtain ⟨yl, yn, yo⟩ := y
          dsimp only at x0 x1 x2 y0 y1 y2
          have hcs : ¬ xl = yl ∨ (xl = yl ∧ ¬ xn = yn) ∨ (xl = yl ∧ xn = yn ∧ ¬ xo = yo) := by
            by_cases h1 : xl = yl
            · by_cases h2 : xn = yn
              · exact .inr (.inr ⟨h1, h2, fun h3 => hxy (by rw [h1, h2, h3])⟩)
              · exact .inr (.inl ⟨h1, h2⟩)
            · exact .inl h1
          clear hx hy hst1 hst2 HT hn2 hxy
          rcases hcs with h1 | ⟨rfl, h1⟩ | ⟨rfl, rfl, h1⟩
          all_goals
            have hbq : (_ == _) = false := beq_eq_false_iff_ne.2 h1
            go_wp2_with fail
            go_quiet (fail)
            go_wp2
            go_ret
            exact ⟨rfl, _, World.drewN_drewN _ _ _⟩
      · obtain rfl : k = l1.length := by omega
        have hT := HT.out
        rw [List.take_of_length_le (Nat.le_refl _), List.take_of_length_le (by rw [HN.out]; exact Nat.le_refl _)] at hT
        have hdt : d = true := by rw [← HD.out]; simpa using hT
        subst hdt
        clear hT HT
        go_wp2
        go_ret
        exact ⟨rfl, _, rfl⟩
  · have hd : decide (l1 = l2) = false := by
      rw [decide_eq_false_iff_not]
      intro e
      exact hn (by rw [e])
    rw [hd]
    have hne : ((l1.length : Int) == (l2.length : Int)) = false := by
      rw [beq_eq_false_iff_ne]
      omega
    clear hd hn
    go_enter Try.func15, Try.ntmps15
    go_wp2
    go_ret
    exact ⟨rfl, 0, rfl⟩
end Go.Proofs.Ytclheffeiaaodaa
