/-
  The walks of layer 28, sixth part: the first one in an order; the best match.
-/
import Derived.Test.YtngphgdoolcpcaaMatchE
namespace Go.Port
open Go.RowKit
def sqv (s : Sq) : Value := .agg #[.int .i64 s.lit, .int .i64 s.len, .int .i64 s.off]
def stepF (f : Sq → Sq → Bool) (x : Sq) : Option Sq → Sq
  | none => x
  | some y => if f x y then x else y
theorem firstGo_snoc (f : Sq → Sq → Bool) (l : List Sq) (x : Sq) : ∀ o : Option Sq, firstGo f o (l ++ [x]) = some (stepF f x (firstGo f o l)) := by
  induction l with
  | nil =>
    intro o
    cases o with
    | none => rfl
    | some y => simp only [List.nil_append, firstGo, stepF]; split <;> rfl
  | cons z r ih =>
    intro o
    cases o with
    | none => exact ih _
    | some y => exact ih _
theorem sqc_get {l : List Sq} {k : Nat} {x : Sq} (h : l[k]? = some x) (j : Nat) (hj : j < 3) : (l.flatMap sqc)[k * 3 + j]? = (sqc x)[j]? := by
  obtain ⟨h1, rfl⟩ := List.getElem?_eq_some_iff.1 h
  have e : l = l.take k ++ l[k] :: l.drop (k + 1) := by rw [← List.drop_eq_getElem_cons h1, List.take_append_drop]
  have hl : ((l.take k).flatMap sqc).length = k * 3 := by rw [sqc_length, List.length_take, Nat.min_eq_left (Nat.le_of_lt h1)]
  have e2 : l.flatMap sqc = (l.take k).flatMap sqc ++ (sqc l[k] ++ (l.drop (k + 1)).flatMap sqc) := by
    conv => lhs; rw [e]
    rw [List.flatMap_append, List.flatMap_cons]
  rw [e2, List.getElem?_append_right (by omega), hl, Nat.add_sub_cancel_left, List.getElem?_append_left (by simp [sqc]; omega)]
end Go.Port
namespace Go.Proofs.Ytngphgdoolcpcaa
open Go.RowKit Go.Port

set_option maxHeartbeats 800000 in
theorem best1_any (x y : Sq) (w : World) :
    Calls Try.prog 57 #[sqv x, sqv y] w (RetV w (.bool (aheadB x y))) := by
  obtain ⟨xl, xn, xo⟩ := x
  obtain ⟨yl, yn, yo⟩ := y
  unfold sqv aheadB
  dsimp only
  have HB := hid ((below_new w (.cells #[.int .i64 xl, .int .i64 xn, .int .i64 xo] 45)).alloc (by simp) (.cells #[.int .i64 yl, .int .i64 yn, .int .i64 yo] 45))
  by_cases h1 : yn < xn
  · go_enter Try.func57, Try.ntmps57
    go_wp2
    go_ret
    exact ⟨by simp [h1], HB.out⟩
  · by_cases h2 : xn = yn
    · subst h2
      go_enter Try.func57, Try.ntmps57
      go_wp2
      go_ret
      exact ⟨by simp, HB.out⟩
    · go_enter Try.func57, Try.ntmps57
      go_wp2
      go_ret
      exact ⟨by simp; omega, HB.out⟩

set_option maxRecDepth 100000 in
set_option maxHeartbeats 2000000 in
theorem first_any (a : Option Addr) (c : Nat) (l : List Sq) (w : World) (hl : l.length ≤ 100000)
    (hc : ∀ j u, (l.flatMap sqc)[j]? = some u → ∃ bl off, a = some ⟨bl, off, none⟩ ∧ bl < w.heap.size ∧ w.cell? ⟨bl, off + j, none⟩ = some u) :
    Calls Try.prog 55 #[.slice a l.length c, .func (.func 57) #[] #[]] w (RetV w (.tuple #[sqv ((firstGo aheadB none l).getD Sq.zero), .bool (firstGo aheadB none l).isSome])) := by
  have HC := hid (fun W (hW : Below w.heap.size w W) j u (hu : (l.flatMap sqc)[j]? = some u) => (show ∃ bl off, a = some ⟨bl, off, none⟩ ∧ bl < W.heap.size ∧ W.cell? ⟨bl, off + j, none⟩ = some u from by
    obtain ⟨bl, off, h1, h2, h3⟩ := hc j u hu
    exact ⟨bl, off, h1, Nat.lt_of_lt_of_le h2 hW.size, (hW.cell (p := ⟨bl, off + j, none⟩) h2).trans h3⟩))
  clear hc
  have HB := hid (below_new w (.cells #[.int .i64 0, .int .i64 0, .int .i64 0] 45))
  have HP := hid (Blk.new w [.int .i64 0, .int .i64 0, .int .i64 0] 45)
  go_enter Try.func55, Try.ntmps55
  go_wp2
  go_loopw [5, 10] (fun v i wr => ∃ (k : Nat) (o : Option Sq), k ≤ l.length ∧ i = .int .i64 k ∧ v = .bool o.isSome ∧ Hid (firstGo aheadB none (l.take k) = o) ∧ Blk wr w.heap.size (sqc (o.getD Sq.zero)) 45 ∧ Below w.heap.size w wr) (fun _ i _ => l.length - (intOf i).toNat)
  case atStart => exact ⟨0, none, Nat.zero_le _, rfl, rfl, hid rfl, HP.out, HB.out⟩
  case round =>
    obtain ⟨k, o, hk, rfl, rfl, HF, hP, hB⟩ := hrel
    by_cases hlt : k < l.length
    · obtain ⟨x, hx⟩ : ∃ x, l[k]? = some x := ⟨l[k], by simp [hlt]⟩
      have hst : firstGo aheadB none (l.take (k + 1)) = some (stepF aheadB x o) := by
        obtain ⟨h1, h2⟩ := List.getElem?_eq_some_iff.1 hx
        rw [List.take_succ_eq_append_getElem h1, h2, firstGo_snoc, HF.out]
      obtain ⟨bl, off, rfl, hb0, c0⟩ := HC.out wr hB (k * 3 + 0) (.int .i64 x.lit) (by rw [sqc_get hx 0 (by omega)]; rfl)
      obtain ⟨bl1, off1, e1, _, c1⟩ := HC.out wr hB (k * 3 + 1) (.int .i64 x.len) (by rw [sqc_get hx 1 (by omega)]; rfl)
      cases e1
      obtain ⟨bl2, off2, e2, _, c2⟩ := HC.out wr hB (k * 3 + 2) (.int .i64 x.off) (by rw [sqc_get hx 2 (by omega)]; rfl)
      cases e2
      rw [Nat.add_zero] at c0
      rw [← Nat.add_assoc] at c1 c2
      have HST := hid hst
      have hB1 : Below w.heap.size w (wr.alloc (.cells #[.int .i64 x.lit, .int .i64 x.len, .int .i64 x.off] 45)) := hB.alloc hB.size _
      have hP1 := hP.alloc (.cells #[.int .i64 x.lit, .int .i64 x.len, .int .i64 x.off] 45)
      have hX1 := Blk.new wr [.int .i64 x.lit, .int .i64 x.len, .int .i64 x.off] 45
      have HB1 := hid hB1
      have HP1 := hid hP1
      have HX1 := hid hX1
      have hltw := hP.lt
      have HP0 := hid hP
      have HB0 := hid hB
      clear hst hB1 hP1 hX1 hP hB hx
      cases o with
      | none =>
        have p0 := HP0.out.cell (k := 0) rfl
        have p1 := HP0.out.cell (k := 1) rfl
        have p2 := HP0.out.cell (k := 2) rfl
        have z0 := HP0.out.frozen 0
        have z1 := HP0.out.frozen 1
        have z2 := HP0.out.frozen 2
        have hset := (((HP0.out.set 0 (.int .i64 x.lit)).set 1 (.int .i64 x.len)).set 2 (.int .i64 x.off)).alloc (.cells #[.int .i64 x.lit, .int .i64 x.len, .int .i64 x.off] 45)
        have hbs := ((HB0.out.setCell (p := ⟨w.heap.size, 0, none⟩) (Nat.le_refl _) (.int .i64 x.lit)).setCell (p := ⟨w.heap.size, 1, none⟩) (Nat.le_refl _) (.int .i64 x.len)).setCell (p := ⟨w.heap.size, 2, none⟩) (Nat.le_refl _) (.int .i64 x.off)
        have HSet := hid hset
        have HBs := hid (hbs.alloc hbs.size (.cells #[.int .i64 x.lit, .int .i64 x.len, .int .i64 x.off] 45))
        have HST2 := hid (show firstGo aheadB none (l.take (k + 1)) = some x from HST.out)
        clear hset hbs
        go_wp2
        go_roundw
        case rel => exact ⟨k + 1, some x, hlt, by go_num, rfl, HST2, HSet.out, HBs.out⟩
        case measure => simp [intOf]; omega
      | some y =>
        have p0 := HP0.out.cell (k := 0) rfl
        have p1 := HP0.out.cell (k := 1) rfl
        have p2 := HP0.out.cell (k := 2) rfl
        dsimp only [Option.getD, sqc] at p0 p1 p2
        have HBest := hid (fun W => best1_any x y W)
        unfold sqv at HBest
        go_wp2_with fail
        refine (HBest.out _).mono ?_
        rintro e w1 ⟨rfl, hb1⟩
        have HP2 := hid (HP1.out.below hb1 HP1.out.lt)
        have HX2 := hid (HX1.out.below hb1 HX1.out.lt)
        have HB2 := hid (HB1.out.trans (hb1.mono HB1.out.size))
        clear hb1 p0 p1 p2 HBest
        have q0 := HX2.out.cell (k := 0) rfl
        have q1 := HX2.out.cell (k := 1) rfl
        have q2 := HX2.out.cell (k := 2) rfl
        have p0 := HP2.out.cell (k := 0) rfl
        have p1 := HP2.out.cell (k := 1) rfl
        have p2 := HP2.out.cell (k := 2) rfl
        have z0 := HP2.out.frozen 0
        have z1 := HP2.out.frozen 1
        have z2 := HP2.out.frozen 2
        cases ha : aheadB x y with
        | true =>
          have HST2 := hid (show firstGo aheadB none (l.take (k + 1)) = some x from by rw [HST.out]; unfold stepF; dsimp only; rw [if_pos ha])
          have hset := ((HP2.out.set 0 (.int .i64 x.lit)).set 1 (.int .i64 x.len)).set 2 (.int .i64 x.off)
          have HSet := hid hset
          have HBs := hid (((HB2.out.setCell (p := ⟨w.heap.size, 0, none⟩) (Nat.le_refl _) (.int .i64 x.lit)).setCell (p := ⟨w.heap.size, 1, none⟩) (Nat.le_refl _) (.int .i64 x.len)).setCell (p := ⟨w.heap.size, 2, none⟩) (Nat.le_refl _) (.int .i64 x.off))
          clear hset ha
          go_wp2
          go_roundw
          case rel => exact ⟨k + 1, some x, hlt, by go_num, rfl, HST2, HSet.out, HBs.out⟩
          case measure => simp [intOf]; omega
        | false =>
          have HST2 := hid (show firstGo aheadB none (l.take (k + 1)) = some y from by rw [HST.out]; unfold stepF; dsimp only; rw [if_neg (by rw [ha]; simp)])
          clear ha
          go_wp2
          go_roundw
          case rel => exact ⟨k + 1, some y, hlt, by go_num, rfl, HST2, HP2.out, HB2.out⟩
          case measure => simp [intOf]; omega
    · obtain rfl : k = l.length := by omega
      have hF := HF.out
      rw [List.take_of_length_le (Nat.le_refl _)] at hF
      have HF2 := hid hF
      have p0 := hP.cell (k := 0) rfl
      have p1 := hP.cell (k := 1) rfl
      have p2 := hP.cell (k := 2) rfl
      have z0 := hP.frozen 0
      have z1 := hP.frozen 1
      have z2 := hP.frozen 2
      have hBs := ((hB.setCell (p := ⟨w.heap.size, 0, none⟩) (Nat.le_refl _) (.int .i64 (o.getD Sq.zero).lit)).setCell (p := ⟨w.heap.size, 1, none⟩) (Nat.le_refl _) (.int .i64 (o.getD Sq.zero).len)).setCell (p := ⟨w.heap.size, 2, none⟩) (Nat.le_refl _) (.int .i64 (o.getD Sq.zero).off)
      have HBs := hid hBs
      have HSet := hid (((hP.set 0 (.int .i64 (o.getD Sq.zero).lit)).set 1 (.int .i64 (o.getD Sq.zero).len)).set 2 (.int .i64 (o.getD Sq.zero).off))
      clear hF hBs hP hB
      go_wp2
      have r0 := HSet.out.cell (k := 0) rfl
      have r1 := HSet.out.cell (k := 1) rfl
      have r2 := HSet.out.cell (k := 2) rfl
      have hb9 := HBs.out
      rw [HF2.out]
      clear HSet HBs
      generalize ((wr.setCell ⟨w.heap.size, 0, none⟩ (.int .i64 (o.getD Sq.zero).lit)).setCell ⟨w.heap.size, 1, none⟩ (.int .i64 (o.getD Sq.zero).len)).setCell ⟨w.heap.size, 2, none⟩ (.int .i64 (o.getD Sq.zero).off) = W9 at *
      refine bodyPost_ret (v := .tuple #[sqv (o.getD Sq.zero), .bool o.isSome]) (by simp [results, Try.results55, go_sem, r0, r1, r2, sqv]) rfl ?_
      exact ⟨rfl, hb9⟩

end Go.Proofs.Ytngphgdoolcpcaa
