/-
  The walks of layer 28, seventh part: the best match.
-/
import Derived.Test.YtngphgdoolcpcaaMatchF
namespace Go.Proofs.Ytngphgdoolcpcaa
open Go.RowKit Go.Port

set_option maxRecDepth 100000 in
set_option maxHeartbeats 2000000 in
theorem best_any (a a2 : Option Addr) (c c2 : Nat) (b : List UInt8) (pos most : Int) (frm : List Int) (w : World) (hb : b.length ≤ 1000000) (hbc : b.length ≤ c) (hf : frm.length ≤ 100000)
    (hc : ∀ j u, (b.map bv)[j]? = some u → ∃ bl off, a = some ⟨bl, off, none⟩ ∧ bl < w.heap.size ∧ w.cell? ⟨bl, off + j, none⟩ = some u)
    (hc2 : ∀ j u, (frm.map iv)[j]? = some u → ∃ bl off, a2 = some ⟨bl, off, none⟩ ∧ bl < w.heap.size ∧ w.cell? ⟨bl, off + j, none⟩ = some u) :
    Calls Try.prog 34 #[.slice a b.length c, .int .i64 pos, .int .i64 most, .slice a2 frm.length c2] w (RetV w (.tuple #[sqv ((bestS b pos most frm).getD Sq.zero), .bool (bestS b pos most frm).isSome])) := by
  have hB := below_new w (.cells #[.int .i64 0, .int .i64 0, .int .i64 0] 45)
  have HP := hid (Blk.new w [.int .i64 0, .int .i64 0, .int .i64 0] 45)
  have HM := hid (matches_any a a2 c c2 b pos most frm (w.alloc (.cells #[.int .i64 0, .int .i64 0, .int .i64 0] 45)) hb hbc hf
    (fun j u hu => by
      obtain ⟨bl, off, h1, h2, h3⟩ := hc j u hu
      exact ⟨bl, off, h1, Nat.lt_of_lt_of_le h2 hB.size, (hB.cell (p := ⟨bl, off + j, none⟩) h2).trans h3⟩)
    (fun j u hu => by
      obtain ⟨bl, off, h1, h2, h3⟩ := hc2 j u hu
      exact ⟨bl, off, h1, Nat.lt_of_lt_of_le h2 hB.size, (hB.cell (p := ⟨bl, off + j, none⟩) h2).trans h3⟩))
  have HB := hid hB
  have hml := matchesS_length b pos most frm
  clear hc hc2 hB
  generalize hR : Value.tuple #[sqv ((bestS b pos most frm).getD Sq.zero), .bool (bestS b pos most frm).isSome] = R
  unfold bestS at hR
  have HR := hid hR
  clear hR
  generalize matchesS b pos most frm = l at *
  go_enter Try.func34, Try.ntmps34
  go_wp2_with fail
  refine HM.out.mono ?_
  rintro e w1 ⟨v, rfl, hown, hb1⟩
  obtain ⟨av, cv, rfl⟩ := own_slice hown
  have HF := hid (first_any av cv l w1 (by omega) (fun j u hu => by
    obtain ⟨_, _, e, _, _, _, h⟩ := (Sl.of_owns hown).open
    cases e
    exact h j u hu))
  have HB1 := hid (HB.out.trans (hb1.mono HB.out.size))
  have HP1 := hid (HP.out.below hb1 HP.out.lt)
  clear hown hb1 HM
  generalize firstGo aheadB none l = o at *
  unfold sqv at HF
  go_wp2_with fail
  refine HF.out.mono ?_
  rintro e w2 ⟨rfl, hb2⟩
  have HB2 := hid (HB1.out.trans (hb2.mono HB1.out.size))
  have HP2 := hid (HP1.out.below hb2 HP1.out.lt)
  clear hb2 HF
  have p0 := HP2.out.cell (k := 0) rfl
  have p1 := HP2.out.cell (k := 1) rfl
  have p2 := HP2.out.cell (k := 2) rfl
  have z0 := HP2.out.frozen 0
  have z1 := HP2.out.frozen 1
  have z2 := HP2.out.frozen 2
  have hlt2 : w.heap.size < w2.heap.size := HP2.out.lt
  cases o with
  | none =>
    have hset := (((HP2.out.set 0 (.int .i64 0)).set 1 (.int .i64 0)).set 2 (.int .i64 0)).alloc (.cells #[.int .i64 0, .int .i64 0, .int .i64 0] 45)
    have hbs := ((HB2.out.setCell (p := ⟨w.heap.size, 0, none⟩) (Nat.le_refl _) (.int .i64 0)).setCell (p := ⟨w.heap.size, 1, none⟩) (Nat.le_refl _) (.int .i64 0)).setCell (p := ⟨w.heap.size, 2, none⟩) (Nat.le_refl _) (.int .i64 0)
    have HBs := hid (hbs.alloc hbs.size (.cells #[.int .i64 0, .int .i64 0, .int .i64 0] 45))
    have HSet := hid hset
    clear hset hbs
    dsimp only [Option.getD, Option.isSome, Sq.zero]
    go_wp2
    have r0 := HSet.out.cell (k := 0) rfl
    have r1 := HSet.out.cell (k := 1) rfl
    have r2 := HSet.out.cell (k := 2) rfl
    have hb9 := HBs.out
    clear HSet HBs p0 p1 p2 z0 z1 z2
    generalize (((w2.setCell ⟨w.heap.size, 0, none⟩ (.int .i64 0)).setCell ⟨w.heap.size, 1, none⟩ (.int .i64 0)).setCell ⟨w.heap.size, 2, none⟩ (.int .i64 0)).alloc (.cells #[.int .i64 0, .int .i64 0, .int .i64 0] 45) = W9 at *
    (try simp only [Exit.inBlock, Exit.then])
    refine bodyPost_ret (v := .tuple #[.agg #[.int .i64 0, .int .i64 0, .int .i64 0], .bool false]) (by simp [results, Try.results34, go_sem, r0, r1, r2]) rfl ?_
    exact ⟨by rw [← HR.out]; rfl, hb9⟩
  | some s =>
    obtain ⟨sl, sn, so⟩ := s
    by_cases h3 : sn < 3
    · skip
      have hset := (((HP2.out.set 0 (.int .i64 0)).set 1 (.int .i64 0)).set 2 (.int .i64 0)).alloc (.cells #[.int .i64 sl, .int .i64 sn, .int .i64 so] 45)
      have hbs := ((HB2.out.setCell (p := ⟨w.heap.size, 0, none⟩) (Nat.le_refl _) (.int .i64 0)).setCell (p := ⟨w.heap.size, 1, none⟩) (Nat.le_refl _) (.int .i64 0)).setCell (p := ⟨w.heap.size, 2, none⟩) (Nat.le_refl _) (.int .i64 0)
      have HBs := hid (hbs.alloc hbs.size (.cells #[.int .i64 sl, .int .i64 sn, .int .i64 so] 45))
      have HSet := hid hset
      clear hset hbs
      dsimp only [Option.getD, Option.isSome, Sq.zero]
      go_wp2
      have r0 := HSet.out.cell (k := 0) rfl
      have r1 := HSet.out.cell (k := 1) rfl
      have r2 := HSet.out.cell (k := 2) rfl
      have hb9 := HBs.out
      clear HSet HBs p0 p1 p2 z0 z1 z2
      generalize (((w2.setCell ⟨w.heap.size, 0, none⟩ (.int .i64 0)).setCell ⟨w.heap.size, 1, none⟩ (.int .i64 0)).setCell ⟨w.heap.size, 2, none⟩ (.int .i64 0)).alloc (.cells #[.int .i64 sl, .int .i64 sn, .int .i64 so] 45) = W9 at *
      (try simp only [Exit.inBlock, Exit.then])
      refine bodyPost_ret (v := .tuple #[.agg #[.int .i64 0, .int .i64 0, .int .i64 0], .bool false]) (by simp [results, Try.results34, go_sem, r0, r1, r2]) rfl ?_
      exact ⟨by rw [← HR.out]; simp only [h3, if_true]; rfl, hb9⟩
    · skip
      have hset := (((HP2.out.set 0 (.int .i64 sl)).set 1 (.int .i64 sn)).set 2 (.int .i64 so)).alloc (.cells #[.int .i64 sl, .int .i64 sn, .int .i64 so] 45)
      have hbs := ((HB2.out.setCell (p := ⟨w.heap.size, 0, none⟩) (Nat.le_refl _) (.int .i64 sl)).setCell (p := ⟨w.heap.size, 1, none⟩) (Nat.le_refl _) (.int .i64 sn)).setCell (p := ⟨w.heap.size, 2, none⟩) (Nat.le_refl _) (.int .i64 so)
      have HBs := hid (hbs.alloc hbs.size (.cells #[.int .i64 sl, .int .i64 sn, .int .i64 so] 45))
      have HSet := hid hset
      clear hset hbs
      dsimp only [Option.getD, Option.isSome, Sq.zero]
      go_wp2
      have r0 := HSet.out.cell (k := 0) rfl
      have r1 := HSet.out.cell (k := 1) rfl
      have r2 := HSet.out.cell (k := 2) rfl
      have hb9 := HBs.out
      clear HSet HBs p0 p1 p2 z0 z1 z2
      generalize (((w2.setCell ⟨w.heap.size, 0, none⟩ (.int .i64 sl)).setCell ⟨w.heap.size, 1, none⟩ (.int .i64 sn)).setCell ⟨w.heap.size, 2, none⟩ (.int .i64 so)).alloc (.cells #[.int .i64 sl, .int .i64 sn, .int .i64 so] 45) = W9 at *
      (try simp only [Exit.inBlock, Exit.then])
      refine bodyPost_ret (v := .tuple #[.agg #[.int .i64 sl, .int .i64 sn, .int .i64 so], .bool true]) (by simp [results, Try.results34, go_sem, r0, r1, r2]) rfl ?_
      exact ⟨by rw [← HR.out, if_neg (by omega)]; rfl, hb9⟩

end Go.Proofs.Ytngphgdoolcpcaa
