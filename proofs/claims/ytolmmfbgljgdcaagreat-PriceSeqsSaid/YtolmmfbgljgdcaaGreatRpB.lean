/-
  The repeated offsets (layer 21): the reference's Offset and Value.
-/
import Derived.Test.YtolmmfbgljgdcaaGreatRpA
import Derived.Deep.RegionHeld3
import Derived.Deep.DeepCutAuto
namespace Go.Proofs.YtolmmfbgljgdcaaGreat
open Go.RowKit Go.Port

set_option maxRecDepth 100000 in
set_option maxHeartbeats 4000000 in
theorem roffset_any (r0 r1 r2 lit v : Int) (hr : rRight r0 r1 r2 = true) (hl : 0 ≤ lit) (h1 : 1 ≤ v) (h2 : v ≤ 134217731) (w : World) :
    Calls Tryz.prog 65 #[.agg #[.int .i64 r0, .int .i64 r1, .int .i64 r2], .int .i64 lit, .int .i64 v] w (RetV w (if winOk (toldF r0 r1 r2 lit v).1 = true then .tuple #[.int .i64 (toldF r0 r1 r2 lit v).1, nxtV (nextF r0 r1 r2 (toldF r0 r1 r2 lit v)), .int .i64 0] else .tuple #[.int .i64 0, .agg #[.int .i64 0, .int .i64 0, .int .i64 0], .int .i64 15])) := by
  have HRr := hid (fun W => by have h := rright21_any r0 r1 r2 W; rw [hr] at h; exact h)
  have hr0 : 1 ≤ r0 ∧ r0 ≤ 134217728 := winOk_true (by unfold rRight at hr; simp only [Bool.and_eq_true] at hr; exact hr.1.1)
  have HT := hid (fun W => rtold21_any r0 r1 r2 lit v h1 h2 hr0 W)
  have hat := toldF_at r0 r1 r2 lit v
  obtain ⟨off, k, ht⟩ : ∃ off k, toldF r0 r1 r2 lit v = (off, k) := ⟨_, _, rfl⟩
  rw [ht] at HT hat ⊢
  dsimp only at HT hat ⊢
  generalize hV : (if winOk off = true then Value.tuple #[.int .i64 off, nxtV (nextF r0 r1 r2 (off, k)), .int .i64 0] else .tuple #[.int .i64 0, .agg #[.int .i64 0, .int .i64 0, .int .i64 0], .int .i64 15]) = V
  have HV := hid hV
  clear hV
  have HX1 := hid (show Blk ((w.alloc (.cells #[.int .i64 r0, .int .i64 r1, .int .i64 r2] 40)).alloc (.cells #[.int .i64 0, .int .i64 0, .int .i64 0] 40)) w.heap.size [.int .i64 r0, .int .i64 r1, .int .i64 r2] 40 from (Blk.newAt rfl).alloc _)
  have HZ1 := hid (show Blk ((w.alloc (.cells #[.int .i64 r0, .int .i64 r1, .int .i64 r2] 40)).alloc (.cells #[.int .i64 0, .int .i64 0, .int .i64 0] 40)) (w.heap.size + 1) [.int .i64 0, .int .i64 0, .int .i64 0] 40 from Blk.newAt (by simp))
  have HB1 := hid (show Below w.heap.size w ((w.alloc (.cells #[.int .i64 r0, .int .i64 r1, .int .i64 r2] 40)).alloc (.cells #[.int .i64 0, .int .i64 0, .int .i64 0] 40)) from (below_new w _).alloc (by simp) _)
  have c0 := HX1.out.cell (k := 0) rfl
  have c1 := HX1.out.cell (k := 1) rfl
  have c2 := HX1.out.cell (k := 2) rfl
  clear hr ht
  go_enter Tryz.func65, Tryz.ntmps65
  go_wp2_with fail
  clear c0 c1 c2
  generalize (w.alloc (.cells #[.int .i64 r0, .int .i64 r1, .int .i64 r2] 40)).alloc (.cells #[.int .i64 0, .int .i64 0, .int .i64 0] 40) = w1 at *
  refine (HRr.out _).mono ?_
  rintro e w2 ⟨rfl, hb⟩
  have HB2 := hid (HB1.out.trans (hb.mono HB1.out.size))
  have HX2 := hid (HX1.out.below hb HX1.out.lt)
  have HZ2 := hid (HZ1.out.below hb HZ1.out.lt)
  clear hb HB1 HX1 HZ1 HRr
  have c0 := HX2.out.cell (k := 0) rfl
  have c1 := HX2.out.cell (k := 1) rfl
  have c2 := HX2.out.cell (k := 2) rfl
  go_wp2_with fail
  clear c0 c1 c2
  refine (HT.out _).mono ?_
  rintro e w3 ⟨rfl, hb⟩
  have HB3 := hid (HB2.out.trans (hb.mono HB2.out.size))
  have HX3 := hid (HX2.out.below hb HX2.out.lt)
  have HZ3 := hid (HZ2.out.below hb HZ2.out.lt)
  clear hb HB2 HX2 HZ2 HT
  go_wp2_with fail
  refine (rwithin_any _ _).mono ?_
  rintro e w' ⟨rfl, rfl⟩
  cases ew : winOk off with
  | false =>
    have hV := HV.out
    rw [ew, if_neg (by decide)] at hV
    subst hV
    have y0 := HZ3.out.cell (k := 0) rfl
    have z0 := HZ3.out.frozen 0
    have y1 := HZ3.out.cell (k := 1) rfl
    have z1 := HZ3.out.frozen 1
    have y2 := HZ3.out.cell (k := 2) rfl
    have z2 := HZ3.out.frozen 2
    go_wp2
    have HZs := hid (((HZ3.out.set 0 (.int .i64 0)).set 1 (.int .i64 0)).set 2 (.int .i64 0))
    have HBs := hid (((HB3.out.setCell (p := ⟨w.heap.size + 1, 0, none⟩) (Nat.le_succ _) (.int .i64 0)).setCell (p := ⟨w.heap.size + 1, 1, none⟩) (Nat.le_succ _) (.int .i64 0)).setCell (p := ⟨w.heap.size + 1, 2, none⟩) (Nat.le_succ _) (.int .i64 0))
    clear y0 y1 y2 z0 z1 z2
    have p0 := HZs.out.cell (k := 0) rfl
    have p1 := HZs.out.cell (k := 1) rfl
    have p2 := HZs.out.cell (k := 2) rfl
    refine bodyPost_ret (v := .tuple #[.int .i64 0, .agg #[.int .i64 0, .int .i64 0, .int .i64 0], .int .i64 15]) (by simp [results, Tryz.results65, go_sem, p0, p1, p2]) rfl ?_
    exact ⟨rfl, HBs.out⟩
  | true =>
    have hV := HV.out
    rw [ew, if_pos rfl] at hV
    subst hV
    have hb := below_new w3 (.cells #[.int .i64 off, .int .i64 r0, .int .i64 r1] 40)
    have HN4 := hid (Blk.new w3 [.int .i64 off, .int .i64 r0, .int .i64 r1] 40)
    have HB4 := hid (HB3.out.trans (hb.mono HB3.out.size))
    have HX4 := hid (HX3.out.below hb HX3.out.lt)
    have HZ4 := hid (HZ3.out.below hb HZ3.out.lt)
    have c0 := HX3.out.cell (k := 0) rfl
    have c1 := HX3.out.cell (k := 1) rfl
    have c2 := HX3.out.cell (k := 2) rfl
    go_upto_if 41 with (fail)
    clear c0 c1 c2 hb HB3 HX3
    have hlt : w.heap.size + 1 < w3.heap.size := HZ3.out.lt
    clear HZ3
    generalize w3.alloc (.cells #[.int .i64 off, .int .i64 r0, .int .i64 r1] 40) = w4 at *
    generalize w3.heap.size = q2 at *
    rcases hat with ⟨rfl, rfl⟩ | ⟨rfl, rfl⟩ | ⟨rfl, rfl⟩ | rfl
    · have c0 := HX4.out.cell (k := 0) rfl
      have c1 := HX4.out.cell (k := 1) rfl
      have c2 := HX4.out.cell (k := 2) rfl
      have y0 := HN4.out.cell (k := 0) rfl
      have z0 := HN4.out.frozen 0
      have y1 := HN4.out.cell (k := 1) rfl
      have z1 := HN4.out.frozen 1
      have y2 := HN4.out.cell (k := 2) rfl
      have z2 := HN4.out.frozen 2
      go_upto_region 13 with fail
      have HN5 := hid (((HN4.out.set 0 (.int .i64 off)).set 1 (.int .i64 r1)).set 2 (.int .i64 r2))
      have HZ5 := hid (((HZ4.out.other (a := ⟨q2, 0, none⟩) (.int .i64 off) (by dsimp only; omega)).other (a := ⟨q2, 1, none⟩) (.int .i64 r1) (by dsimp only; omega)).other (a := ⟨q2, 2, none⟩) (.int .i64 r2) (by dsimp only; omega))
      have HB5 := hid (((HB4.out.setCell (p := ⟨q2, 0, none⟩) (by dsimp only; omega) (.int .i64 off)).setCell (p := ⟨q2, 1, none⟩) (by dsimp only; omega) (.int .i64 r1)).setCell (p := ⟨q2, 2, none⟩) (by dsimp only; omega) (.int .i64 r2))
      clear c0 c1 c2 y0 y1 y2 z0 z1 z2 HN4 HZ4 HB4 HX4
      generalize ((w4.setCell ⟨q2, 0, none⟩ (.int .i64 off)).setCell ⟨q2, 1, none⟩ (.int .i64 r1)).setCell ⟨q2, 2, none⟩ (.int .i64 r2) = w5 at *
      have HBd := hid (show Below w5.heap.size w5 w5.drew from (Below.refl _ _).drew)
      have HQd := hid (HN5.out.below HBd.out HN5.out.lt)
      have HZd := hid (HZ5.out.below HBd.out HZ5.out.lt)
      have HBx := hid (HB5.out.trans (HBd.out.mono HB5.out.size))
      have hne : (w.heap.size + 1 : Nat) ≠ q2 := by omega
      refine wp_region_noPanic ?_
      refine wp_region_held_drew (S := fun W' => Blk W' (q2) [.int .i64 off, .int .i64 r1, .int .i64 r2] 40) (by kernel_rfl) HQd.out (fun hHeld => ?_)
      clear HBd
      generalize w5.drew = wd at *
      refine wpAnyH_take (i := 0) (v := .int .i64 off) (by simp only [List.getElem?_toArray, List.getElem?_cons_zero]; rfl) (by kernel_rfl) (by kernel_rfl) (by kernel_rfl) (fun _ _ _ h => h) (Or.inl ⟨by rfl, fun W hSw => ?_⟩) (by assumption) ?_
      · clear hSw
        go_simp
      simp only [Act.put, List.setIfInBounds_toArray, List.set_cons_zero, List.set_cons_succ]
      refine wpAnyH_take (i := 1) (v := .agg #[.int .i64 off, .int .i64 r1, .int .i64 r2]) (by simp only [List.getElem?_toArray, List.getElem?_cons_zero, List.getElem?_cons_succ]; rfl) (by kernel_rfl) (by kernel_rfl) (by kernel_rfl) (fun _ _ _ h => h) (Or.inl ⟨by rfl, fun W hSw => ?_⟩) (by assumption) ?_
      · have hcw0 := hSw.cell (k := 0) rfl
        have hcw1 := hSw.cell (k := 1) rfl
        have hcw2 := hSw.cell (k := 2) rfl
        go_simp
      simp only [Act.put, List.setIfInBounds_toArray, List.set_cons_zero, List.set_cons_succ]
      refine wpAnyH_ready (rs := [2]) (by kernel_rfl) (by simp) ?_
      refine AllReadyH.cons (by simp only [List.getElem?_toArray, List.getElem?_cons_zero, List.getElem?_cons_succ]; rfl) (fun K hK => ?_) AllReadyH.nil
      rw [if_pos (by rfl)]
      go_simp
      refine hK.out _ _ HQd.out (fun _ => ?_)
      clear hK K
      have y0 := HZd.out.cell (k := 0) rfl
      have z0 := HZd.out.frozen 0
      have y1 := HZd.out.cell (k := 1) rfl
      have z1 := HZd.out.frozen 1
      have y2 := HZd.out.cell (k := 2) rfl
      have z2 := HZd.out.frozen 2
      have HZs := hid (((HZd.out.set 0 (.int .i64 off)).set 1 (.int .i64 r1)).set 2 (.int .i64 r2))
      have HQs := hid (((HQd.out.other (a := ⟨w.heap.size + 1, 0, none⟩) (.int .i64 off) hne).other (a := ⟨w.heap.size + 1, 1, none⟩) (.int .i64 r1) hne).other (a := ⟨w.heap.size + 1, 2, none⟩) (.int .i64 r2) hne)
      have HBs := hid (((HBx.out.setCell (p := ⟨w.heap.size + 1, 0, none⟩) (Nat.le_succ _) (.int .i64 off)).setCell (p := ⟨w.heap.size + 1, 1, none⟩) (Nat.le_succ _) (.int .i64 r1)).setCell (p := ⟨w.heap.size + 1, 2, none⟩) (Nat.le_succ _) (.int .i64 r2))
      refine wpAnyH_ready (rs := [3]) (by kernel_rfl) (by simp) ?_
      refine AllReadyH.cons (by simp only [List.getElem?_toArray, List.getElem?_cons_zero, List.getElem?_cons_succ]; rfl) (fun K hK => ?_) AllReadyH.nil
      rw [if_pos (by rfl)]
      go_simp
      refine hK.out _ _ HQs.out (fun _ => ?_)
      clear hK K
      clear y0 y1 y2 z0 z1 z2
      generalize ((wd.setCell ⟨w.heap.size + 1, 0, none⟩ (.int .i64 off)).setCell ⟨w.heap.size + 1, 1, none⟩ (.int .i64 r1)).setCell ⟨w.heap.size + 1, 2, none⟩ (.int .i64 r2) = ws at *
      refine wpAnyH_ready (rs := [4]) (by kernel_rfl) (by simp) ?_
      refine AllReadyH.cons (by simp only [List.getElem?_toArray, List.getElem?_cons_zero, List.getElem?_cons_succ]; rfl) (fun K hK => ?_) AllReadyH.nil
      rw [if_pos (by rfl)]
      go_simp
      refine hK.out _ _ HQs.out (fun _ => ?_)
      clear hK K
      refine wpAnyH_done (by kernel_rfl) ?_ _
      refine NoPanic.normal ?_
      have p0 := HZs.out.cell (k := 0) rfl
      have p1 := HZs.out.cell (k := 1) rfl
      have p2 := HZs.out.cell (k := 2) rfl
      go_wp2
      refine bodyPost_ret (v := .tuple #[.int .i64 off, .agg #[.int .i64 off, .int .i64 r1, .int .i64 r2], .int .i64 0]) (by simp [results, Tryz.results65, go_sem, p0, p1, p2]) rfl ?_
      exact ⟨rfl, HBs.out⟩
    · have c0 := HX4.out.cell (k := 0) rfl
      have c1 := HX4.out.cell (k := 1) rfl
      have c2 := HX4.out.cell (k := 2) rfl
      have y0 := HN4.out.cell (k := 0) rfl
      have z0 := HN4.out.frozen 0
      have y1 := HN4.out.cell (k := 1) rfl
      have z1 := HN4.out.frozen 1
      have y2 := HN4.out.cell (k := 2) rfl
      have z2 := HN4.out.frozen 2
      go_upto_region 13 with fail
      have HN5 := hid (((HN4.out.set 0 (.int .i64 off)).set 1 (.int .i64 r0)).set 2 (.int .i64 r2))
      have HZ5 := hid (((HZ4.out.other (a := ⟨q2, 0, none⟩) (.int .i64 off) (by dsimp only; omega)).other (a := ⟨q2, 1, none⟩) (.int .i64 r0) (by dsimp only; omega)).other (a := ⟨q2, 2, none⟩) (.int .i64 r2) (by dsimp only; omega))
      have HB5 := hid (((HB4.out.setCell (p := ⟨q2, 0, none⟩) (by dsimp only; omega) (.int .i64 off)).setCell (p := ⟨q2, 1, none⟩) (by dsimp only; omega) (.int .i64 r0)).setCell (p := ⟨q2, 2, none⟩) (by dsimp only; omega) (.int .i64 r2))
      clear c0 c1 c2 y0 y1 y2 z0 z1 z2 HN4 HZ4 HB4 HX4
      generalize ((w4.setCell ⟨q2, 0, none⟩ (.int .i64 off)).setCell ⟨q2, 1, none⟩ (.int .i64 r0)).setCell ⟨q2, 2, none⟩ (.int .i64 r2) = w5 at *
      have HBd := hid (show Below w5.heap.size w5 w5.drew from (Below.refl _ _).drew)
      have HQd := hid (HN5.out.below HBd.out HN5.out.lt)
      have HZd := hid (HZ5.out.below HBd.out HZ5.out.lt)
      have HBx := hid (HB5.out.trans (HBd.out.mono HB5.out.size))
      have hne : (w.heap.size + 1 : Nat) ≠ q2 := by omega
      refine wp_region_noPanic ?_
      refine wp_region_held_drew (S := fun W' => Blk W' (q2) [.int .i64 off, .int .i64 r0, .int .i64 r2] 40) (by kernel_rfl) HQd.out (fun hHeld => ?_)
      clear HBd
      generalize w5.drew = wd at *
      refine wpAnyH_take (i := 0) (v := .int .i64 off) (by simp only [List.getElem?_toArray, List.getElem?_cons_zero]; rfl) (by kernel_rfl) (by kernel_rfl) (by kernel_rfl) (fun _ _ _ h => h) (Or.inl ⟨by rfl, fun W hSw => ?_⟩) (by assumption) ?_
      · clear hSw
        go_simp
      simp only [Act.put, List.setIfInBounds_toArray, List.set_cons_zero, List.set_cons_succ]
      refine wpAnyH_take (i := 1) (v := .agg #[.int .i64 off, .int .i64 r0, .int .i64 r2]) (by simp only [List.getElem?_toArray, List.getElem?_cons_zero, List.getElem?_cons_succ]; rfl) (by kernel_rfl) (by kernel_rfl) (by kernel_rfl) (fun _ _ _ h => h) (Or.inl ⟨by rfl, fun W hSw => ?_⟩) (by assumption) ?_
      · have hcw0 := hSw.cell (k := 0) rfl
        have hcw1 := hSw.cell (k := 1) rfl
        have hcw2 := hSw.cell (k := 2) rfl
        go_simp
      simp only [Act.put, List.setIfInBounds_toArray, List.set_cons_zero, List.set_cons_succ]
      refine wpAnyH_ready (rs := [2]) (by kernel_rfl) (by simp) ?_
      refine AllReadyH.cons (by simp only [List.getElem?_toArray, List.getElem?_cons_zero, List.getElem?_cons_succ]; rfl) (fun K hK => ?_) AllReadyH.nil
      rw [if_pos (by rfl)]
      go_simp
      refine hK.out _ _ HQd.out (fun _ => ?_)
      clear hK K
      have y0 := HZd.out.cell (k := 0) rfl
      have z0 := HZd.out.frozen 0
      have y1 := HZd.out.cell (k := 1) rfl
      have z1 := HZd.out.frozen 1
      have y2 := HZd.out.cell (k := 2) rfl
      have z2 := HZd.out.frozen 2
      have HZs := hid (((HZd.out.set 0 (.int .i64 off)).set 1 (.int .i64 r0)).set 2 (.int .i64 r2))
      have HQs := hid (((HQd.out.other (a := ⟨w.heap.size + 1, 0, none⟩) (.int .i64 off) hne).other (a := ⟨w.heap.size + 1, 1, none⟩) (.int .i64 r0) hne).other (a := ⟨w.heap.size + 1, 2, none⟩) (.int .i64 r2) hne)
      have HBs := hid (((HBx.out.setCell (p := ⟨w.heap.size + 1, 0, none⟩) (Nat.le_succ _) (.int .i64 off)).setCell (p := ⟨w.heap.size + 1, 1, none⟩) (Nat.le_succ _) (.int .i64 r0)).setCell (p := ⟨w.heap.size + 1, 2, none⟩) (Nat.le_succ _) (.int .i64 r2))
      refine wpAnyH_ready (rs := [3]) (by kernel_rfl) (by simp) ?_
      refine AllReadyH.cons (by simp only [List.getElem?_toArray, List.getElem?_cons_zero, List.getElem?_cons_succ]; rfl) (fun K hK => ?_) AllReadyH.nil
      rw [if_pos (by rfl)]
      go_simp
      refine hK.out _ _ HQs.out (fun _ => ?_)
      clear hK K
      clear y0 y1 y2 z0 z1 z2
      generalize ((wd.setCell ⟨w.heap.size + 1, 0, none⟩ (.int .i64 off)).setCell ⟨w.heap.size + 1, 1, none⟩ (.int .i64 r0)).setCell ⟨w.heap.size + 1, 2, none⟩ (.int .i64 r2) = ws at *
      refine wpAnyH_ready (rs := [4]) (by kernel_rfl) (by simp) ?_
      refine AllReadyH.cons (by simp only [List.getElem?_toArray, List.getElem?_cons_zero, List.getElem?_cons_succ]; rfl) (fun K hK => ?_) AllReadyH.nil
      rw [if_pos (by rfl)]
      go_simp
      refine hK.out _ _ HQs.out (fun _ => ?_)
      clear hK K
      refine wpAnyH_done (by kernel_rfl) ?_ _
      refine NoPanic.normal ?_
      have p0 := HZs.out.cell (k := 0) rfl
      have p1 := HZs.out.cell (k := 1) rfl
      have p2 := HZs.out.cell (k := 2) rfl
      go_wp2
      refine bodyPost_ret (v := .tuple #[.int .i64 off, .agg #[.int .i64 off, .int .i64 r0, .int .i64 r2], .int .i64 0]) (by simp [results, Tryz.results65, go_sem, p0, p1, p2]) rfl ?_
      exact ⟨rfl, HBs.out⟩
    · go_upto_region 13 with fail
      have HBd := hid (show Below w4.heap.size w4 w4.drew from (Below.refl _ _).drew)
      have HQd := hid (HN4.out.below HBd.out HN4.out.lt)
      have HZd := hid (HZ4.out.below HBd.out HZ4.out.lt)
      have HBx := hid (HB4.out.trans (HBd.out.mono HB4.out.size))
      have hne : (w.heap.size + 1 : Nat) ≠ q2 := by omega
      refine wp_region_noPanic ?_
      refine wp_region_held_drew (S := fun W' => Blk W' (q2) [.int .i64 off, .int .i64 r0, .int .i64 r1] 40) (by kernel_rfl) HQd.out (fun hHeld => ?_)
      clear HBd
      generalize w4.drew = wd at *
      refine wpAnyH_take (i := 0) (v := .int .i64 off) (by simp only [List.getElem?_toArray, List.getElem?_cons_zero]; rfl) (by kernel_rfl) (by kernel_rfl) (by kernel_rfl) (fun _ _ _ h => h) (Or.inl ⟨by rfl, fun W hSw => ?_⟩) (by assumption) ?_
      · clear hSw
        go_simp
      simp only [Act.put, List.setIfInBounds_toArray, List.set_cons_zero, List.set_cons_succ]
      refine wpAnyH_take (i := 1) (v := .agg #[.int .i64 off, .int .i64 r0, .int .i64 r1]) (by simp only [List.getElem?_toArray, List.getElem?_cons_zero, List.getElem?_cons_succ]; rfl) (by kernel_rfl) (by kernel_rfl) (by kernel_rfl) (fun _ _ _ h => h) (Or.inl ⟨by rfl, fun W hSw => ?_⟩) (by assumption) ?_
      · have hcw0 := hSw.cell (k := 0) rfl
        have hcw1 := hSw.cell (k := 1) rfl
        have hcw2 := hSw.cell (k := 2) rfl
        go_simp
      simp only [Act.put, List.setIfInBounds_toArray, List.set_cons_zero, List.set_cons_succ]
      refine wpAnyH_ready (rs := [2]) (by kernel_rfl) (by simp) ?_
      refine AllReadyH.cons (by simp only [List.getElem?_toArray, List.getElem?_cons_zero, List.getElem?_cons_succ]; rfl) (fun K hK => ?_) AllReadyH.nil
      rw [if_pos (by rfl)]
      go_simp
      refine hK.out _ _ HQd.out (fun _ => ?_)
      clear hK K
      have y0 := HZd.out.cell (k := 0) rfl
      have z0 := HZd.out.frozen 0
      have y1 := HZd.out.cell (k := 1) rfl
      have z1 := HZd.out.frozen 1
      have y2 := HZd.out.cell (k := 2) rfl
      have z2 := HZd.out.frozen 2
      have HZs := hid (((HZd.out.set 0 (.int .i64 off)).set 1 (.int .i64 r0)).set 2 (.int .i64 r1))
      have HQs := hid (((HQd.out.other (a := ⟨w.heap.size + 1, 0, none⟩) (.int .i64 off) hne).other (a := ⟨w.heap.size + 1, 1, none⟩) (.int .i64 r0) hne).other (a := ⟨w.heap.size + 1, 2, none⟩) (.int .i64 r1) hne)
      have HBs := hid (((HBx.out.setCell (p := ⟨w.heap.size + 1, 0, none⟩) (Nat.le_succ _) (.int .i64 off)).setCell (p := ⟨w.heap.size + 1, 1, none⟩) (Nat.le_succ _) (.int .i64 r0)).setCell (p := ⟨w.heap.size + 1, 2, none⟩) (Nat.le_succ _) (.int .i64 r1))
      refine wpAnyH_ready (rs := [3]) (by kernel_rfl) (by simp) ?_
      refine AllReadyH.cons (by simp only [List.getElem?_toArray, List.getElem?_cons_zero, List.getElem?_cons_succ]; rfl) (fun K hK => ?_) AllReadyH.nil
      rw [if_pos (by rfl)]
      go_simp
      refine hK.out _ _ HQs.out (fun _ => ?_)
      clear hK K
      clear y0 y1 y2 z0 z1 z2
      generalize ((wd.setCell ⟨w.heap.size + 1, 0, none⟩ (.int .i64 off)).setCell ⟨w.heap.size + 1, 1, none⟩ (.int .i64 r0)).setCell ⟨w.heap.size + 1, 2, none⟩ (.int .i64 r1) = ws at *
      refine wpAnyH_ready (rs := [4]) (by kernel_rfl) (by simp) ?_
      refine AllReadyH.cons (by simp only [List.getElem?_toArray, List.getElem?_cons_zero, List.getElem?_cons_succ]; rfl) (fun K hK => ?_) AllReadyH.nil
      rw [if_pos (by rfl)]
      go_simp
      refine hK.out _ _ HQs.out (fun _ => ?_)
      clear hK K
      refine wpAnyH_done (by kernel_rfl) ?_ _
      refine NoPanic.normal ?_
      have p0 := HZs.out.cell (k := 0) rfl
      have p1 := HZs.out.cell (k := 1) rfl
      have p2 := HZs.out.cell (k := 2) rfl
      go_wp2
      refine bodyPost_ret (v := .tuple #[.int .i64 off, .agg #[.int .i64 off, .int .i64 r0, .int .i64 r1], .int .i64 0]) (by simp [results, Tryz.results65, go_sem, p0, p1, p2]) rfl ?_
      exact ⟨rfl, HBs.out⟩
    · go_upto_region 13 with fail
      have HBd := hid (show Below w4.heap.size w4 w4.drew from (Below.refl _ _).drew)
      have HQd := hid (HN4.out.below HBd.out HN4.out.lt)
      have HZd := hid (HZ4.out.below HBd.out HZ4.out.lt)
      have HBx := hid (HB4.out.trans (HBd.out.mono HB4.out.size))
      have hne : (w.heap.size + 1 : Nat) ≠ q2 := by omega
      refine wp_region_noPanic ?_
      refine wp_region_held_drew (S := fun W' => Blk W' (q2) [.int .i64 off, .int .i64 r0, .int .i64 r1] 40) (by kernel_rfl) HQd.out (fun hHeld => ?_)
      clear HBd
      generalize w4.drew = wd at *
      refine wpAnyH_take (i := 0) (v := .int .i64 off) (by simp only [List.getElem?_toArray, List.getElem?_cons_zero]; rfl) (by kernel_rfl) (by kernel_rfl) (by kernel_rfl) (fun _ _ _ h => h) (Or.inl ⟨by rfl, fun W hSw => ?_⟩) (by assumption) ?_
      · clear hSw
        go_simp
      simp only [Act.put, List.setIfInBounds_toArray, List.set_cons_zero, List.set_cons_succ]
      refine wpAnyH_take (i := 1) (v := .agg #[.int .i64 off, .int .i64 r0, .int .i64 r1]) (by simp only [List.getElem?_toArray, List.getElem?_cons_zero, List.getElem?_cons_succ]; rfl) (by kernel_rfl) (by kernel_rfl) (by kernel_rfl) (fun _ _ _ h => h) (Or.inl ⟨by rfl, fun W hSw => ?_⟩) (by assumption) ?_
      · have hcw0 := hSw.cell (k := 0) rfl
        have hcw1 := hSw.cell (k := 1) rfl
        have hcw2 := hSw.cell (k := 2) rfl
        go_simp
      simp only [Act.put, List.setIfInBounds_toArray, List.set_cons_zero, List.set_cons_succ]
      refine wpAnyH_ready (rs := [2]) (by kernel_rfl) (by simp) ?_
      refine AllReadyH.cons (by simp only [List.getElem?_toArray, List.getElem?_cons_zero, List.getElem?_cons_succ]; rfl) (fun K hK => ?_) AllReadyH.nil
      rw [if_pos (by rfl)]
      go_simp
      refine hK.out _ _ HQd.out (fun _ => ?_)
      clear hK K
      have y0 := HZd.out.cell (k := 0) rfl
      have z0 := HZd.out.frozen 0
      have y1 := HZd.out.cell (k := 1) rfl
      have z1 := HZd.out.frozen 1
      have y2 := HZd.out.cell (k := 2) rfl
      have z2 := HZd.out.frozen 2
      have HZs := hid (((HZd.out.set 0 (.int .i64 off)).set 1 (.int .i64 r0)).set 2 (.int .i64 r1))
      have HQs := hid (((HQd.out.other (a := ⟨w.heap.size + 1, 0, none⟩) (.int .i64 off) hne).other (a := ⟨w.heap.size + 1, 1, none⟩) (.int .i64 r0) hne).other (a := ⟨w.heap.size + 1, 2, none⟩) (.int .i64 r1) hne)
      have HBs := hid (((HBx.out.setCell (p := ⟨w.heap.size + 1, 0, none⟩) (Nat.le_succ _) (.int .i64 off)).setCell (p := ⟨w.heap.size + 1, 1, none⟩) (Nat.le_succ _) (.int .i64 r0)).setCell (p := ⟨w.heap.size + 1, 2, none⟩) (Nat.le_succ _) (.int .i64 r1))
      refine wpAnyH_ready (rs := [3]) (by kernel_rfl) (by simp) ?_
      refine AllReadyH.cons (by simp only [List.getElem?_toArray, List.getElem?_cons_zero, List.getElem?_cons_succ]; rfl) (fun K hK => ?_) AllReadyH.nil
      rw [if_pos (by rfl)]
      go_simp
      refine hK.out _ _ HQs.out (fun _ => ?_)
      clear hK K
      clear y0 y1 y2 z0 z1 z2
      generalize ((wd.setCell ⟨w.heap.size + 1, 0, none⟩ (.int .i64 off)).setCell ⟨w.heap.size + 1, 1, none⟩ (.int .i64 r0)).setCell ⟨w.heap.size + 1, 2, none⟩ (.int .i64 r1) = ws at *
      refine wpAnyH_ready (rs := [4]) (by kernel_rfl) (by simp) ?_
      refine AllReadyH.cons (by simp only [List.getElem?_toArray, List.getElem?_cons_zero, List.getElem?_cons_succ]; rfl) (fun K hK => ?_) AllReadyH.nil
      rw [if_pos (by rfl)]
      go_simp
      refine hK.out _ _ HQs.out (fun _ => ?_)
      clear hK K
      refine wpAnyH_done (by kernel_rfl) ?_ _
      refine NoPanic.normal ?_
      have p0 := HZs.out.cell (k := 0) rfl
      have p1 := HZs.out.cell (k := 1) rfl
      have p2 := HZs.out.cell (k := 2) rfl
      go_wp2
      refine bodyPost_ret (v := .tuple #[.int .i64 off, .agg #[.int .i64 off, .int .i64 r0, .int .i64 r1], .int .i64 0]) (by simp [results, Tryz.results65, go_sem, p0, p1, p2]) rfl ?_
      exact ⟨rfl, HBs.out⟩
set_option maxRecDepth 100000 in
set_option maxHeartbeats 4000000 in
theorem rvalue_any (r0 r1 r2 lit off : Int) (hr : rRight r0 r1 r2 = true) (hl : 0 ≤ lit) (hw : winOk off = true) (w : World) :
    Calls Tryz.prog 37 #[.agg #[.int .i64 r0, .int .i64 r1, .int .i64 r2], .int .i64 lit, .int .i64 off] w (RetV w (.tuple #[.int .i64 (valF r0 r1 r2 lit off), nxtV (nextF r0 r1 r2 (toldF r0 r1 r2 lit (valF r0 r1 r2 lit off))), .int .i64 0])) := by
  have HRr := hid (fun W => by have h := rright21_any r0 r1 r2 W; rw [hr] at h; exact h)
  have hwo := winOk_true hw
  have HO := hid (fun W (j : Int) (h1 : 1 ≤ j) (h2 : j ≤ 134217731) => roffset_any r0 r1 r2 lit j hr hl h1 h2 W)
  have HWi := hid hw
  have hw3 : IntKind.i64.wrap (off + 3) = off + 3 := by rw [IntKind.wrap_i64]; omega
  generalize hV : (Value.tuple #[.int .i64 (valF r0 r1 r2 lit off), nxtV (nextF r0 r1 r2 (toldF r0 r1 r2 lit (valF r0 r1 r2 lit off))), .int .i64 0]) = V
  have HV := hid hV
  clear hV
  have HX1 := hid (show Blk ((w.alloc (.cells #[.int .i64 r0, .int .i64 r1, .int .i64 r2] 40)).alloc (.cells #[.int .i64 0, .int .i64 0, .int .i64 0] 40)) w.heap.size [.int .i64 r0, .int .i64 r1, .int .i64 r2] 40 from (Blk.newAt rfl).alloc _)
  have HZ1 := hid (show Blk ((w.alloc (.cells #[.int .i64 r0, .int .i64 r1, .int .i64 r2] 40)).alloc (.cells #[.int .i64 0, .int .i64 0, .int .i64 0] 40)) (w.heap.size + 1) [.int .i64 0, .int .i64 0, .int .i64 0] 40 from Blk.newAt (by simp))
  have HB1 := hid (show Below w.heap.size w ((w.alloc (.cells #[.int .i64 r0, .int .i64 r1, .int .i64 r2] 40)).alloc (.cells #[.int .i64 0, .int .i64 0, .int .i64 0] 40)) from (below_new w _).alloc (by simp) _)
  have c0 := HX1.out.cell (k := 0) rfl
  have c1 := HX1.out.cell (k := 1) rfl
  have c2 := HX1.out.cell (k := 2) rfl
  clear hr
  go_enter Tryz.func37, Tryz.ntmps37
  go_wp2_with fail
  clear c0 c1 c2
  generalize (w.alloc (.cells #[.int .i64 r0, .int .i64 r1, .int .i64 r2] 40)).alloc (.cells #[.int .i64 0, .int .i64 0, .int .i64 0] 40) = w1 at *
  refine (HRr.out _).mono ?_
  rintro e w2 ⟨rfl, hb⟩
  have HB2 := hid (HB1.out.trans (hb.mono HB1.out.size))
  have HX2 := hid (HX1.out.below hb HX1.out.lt)
  have HZ2 := hid (HZ1.out.below hb HZ1.out.lt)
  clear hb HB1 HX1 HZ1 HRr
  go_wp2_with fail
  refine (rwithin_any _ _).mono ?_
  rintro e w' ⟨rfl, rfl⟩
  go_wp2_with fail
  clear hw
  go_loopw [9] (fun i wr => ∃ k : Int, 1 ≤ k ∧ k ≤ 4 ∧ i = .int .i64 k ∧ (∀ j : Int, 1 ≤ j → j < k → (toldF r0 r1 r2 lit j).1 ≠ off) ∧ Below w2.heap.size w2 wr) (fun i _ => 4 - (intOf i).toNat)
  case atStart => exact ⟨1, by omega, by omega, rfl, fun j h1 h2 => by omega, Below.refl _ _⟩
  case round =>
    obtain ⟨k, hk1, hk4, rfl, hno, hb⟩ := hrel
    have HXr := hid (HX2.out.below hb HX2.out.lt)
    have HZr := hid (HZ2.out.below hb HZ2.out.lt)
    have HBr := hid (HB2.out.trans (hb.mono HB2.out.size))
    have HBw := hid hb
    have HNo := hid hno
    have hszr : w2.heap.size ≤ wr.heap.size := hb.size
    have hqw : w.heap.size + 1 < w2.heap.size := HZ2.out.lt
    have c0 := HXr.out.cell (k := 0) rfl
    have c1 := HXr.out.cell (k := 1) rfl
    have c2 := HXr.out.cell (k := 2) rfl
    clear hb hno
    by_cases hlt : k ≤ 3
    · have hO := HO.out wr k hk1 (by omega)
      have hkw : IntKind.i64.wrap (k + 1) = k + 1 := by rw [IntKind.wrap_i64]; omega
      obtain ⟨o, a, ht⟩ : ∃ o a, toldF r0 r1 r2 lit k = (o, a) := ⟨_, _, rfl⟩
      have HTo := hid ht
      rw [ht] at hO
      dsimp only at hO
      have HOf := hid hO
      have HKb := hid (And.intro hk1 (And.intro hk4 hlt))
      clear hO ht
      cases ew : winOk o with
      | false =>
        rw [ew, if_neg (by decide)] at HOf
        go_wp2_with fail
        clear c0 c1 c2
        refine HOf.out.mono ?_
        rintro e w4 ⟨rfl, hb⟩
        have HBw2 := hid (HBw.out.trans ((hb.trans ((below_new w4 (.cells #[.int .i64 0, .int .i64 0, .int .i64 0] 40)).mono hb.size)).mono HBw.out.size))
        clear hb HOf
        go_wp2
        go_roundw
        case rel => exact ⟨k + 1, by omega, by omega, rfl, fun j h1 h2 => by
          by_cases e : j = k
          · subst e
            rw [HTo.out]
            rintro rfl
            rw [HWi.out] at ew
            cases ew
          · exact HNo.out j h1 (by omega), HBw2.out⟩
        case measure => have := HKb.out; simp [intOf]; omega
      | true =>
        rw [ew, if_pos rfl] at HOf
        have hnv : ∃ n0 n1 n2, nextF r0 r1 r2 (o, a) = (n0, n1, n2) := ⟨_, _, _, rfl⟩
        obtain ⟨n0, n1, n2, hnv⟩ := hnv
        rw [hnv] at HOf
        have HOf : Hid (Calls Tryz.prog 65 #[.agg #[.int .i64 r0, .int .i64 r1, .int .i64 r2], .int .i64 lit, .int .i64 k] wr (RetV wr (.tuple #[.int .i64 o, .agg #[.int .i64 n0, .int .i64 n1, .int .i64 n2], .int .i64 0]))) := HOf
        have HNv := hid hnv
        clear hnv
        go_wp2_with fail
        clear c0 c1 c2
        refine HOf.out.mono ?_
        rintro e w4 ⟨rfl, hb⟩
        have hbn := hb.trans ((below_new w4 (.cells #[.int .i64 n0, .int .i64 n1, .int .i64 n2] 40)).mono hb.size)
        have HBw2 := hid (HBw.out.trans (hbn.mono HBw.out.size))
        have HN5 := hid (Blk.new w4 [.int .i64 n0, .int .i64 n1, .int .i64 n2] 40)
        have HZ5 := hid (HZr.out.below hbn HZr.out.lt)
        have HB5 := hid (HBr.out.trans (hbn.mono HBr.out.size))
        have hlt4 : w.heap.size + 1 < w4.heap.size := Nat.lt_of_lt_of_le HZr.out.lt hb.size
        clear hb hbn HOf
        by_cases he : o = off
        · subst he
          have hval : valF r0 r1 r2 lit o = k := by
            have hkb := HKb.out
            unfold valF
            have hkk : k = 1 ∨ k = 2 ∨ k = 3 := by omega
            rcases hkk with rfl | rfl | rfl
            · rw [if_pos (by rw [HTo.out])]
            · rw [if_neg (HNo.out 1 (by omega) (by omega)), if_pos (by rw [HTo.out])]
            · rw [if_neg (HNo.out 1 (by omega) (by omega)), if_neg (HNo.out 2 (by omega) (by omega)), if_pos (by rw [HTo.out])]
          have hV := HV.out
          rw [hval, HTo.out, HNv.out] at hV
          subst hV
          go_upto_region 8 with fail
          generalize w4.alloc (.cells #[.int .i64 n0, .int .i64 n1, .int .i64 n2] 40) = w5 at *
          generalize w4.heap.size = q2 at *
          have HBd := hid (show Below w5.heap.size w5 w5.drew from (Below.refl _ _).drew)
          have HQd := hid (HN5.out.below HBd.out HN5.out.lt)
          have HZd := hid (HZ5.out.below HBd.out HZ5.out.lt)
          have HBx := hid (HB5.out.trans (HBd.out.mono HB5.out.size))
          have hne : (w.heap.size + 1 : Nat) ≠ q2 := by omega
          refine wp_region_noPanic ?_
          refine wp_region_held_drew (S := fun W' => Blk W' (q2) [.int .i64 n0, .int .i64 n1, .int .i64 n2] 40) (by kernel_rfl) HQd.out (fun hHeld => ?_)
          clear HBd
          generalize w5.drew = wd at *
          refine wpAnyH_take (i := 0) (v := .int .i64 k) (by simp only [List.getElem?_toArray, List.getElem?_cons_zero]; rfl) (by kernel_rfl) (by kernel_rfl) (by kernel_rfl) (fun _ _ _ h => h) (Or.inl ⟨by rfl, fun W hSw => ?_⟩) (by assumption) ?_
          · clear hSw
            go_simp
          simp only [Act.put, List.setIfInBounds_toArray, List.set_cons_zero, List.set_cons_succ]
          refine wpAnyH_take (i := 1) (v := .agg #[.int .i64 n0, .int .i64 n1, .int .i64 n2]) (by simp only [List.getElem?_toArray, List.getElem?_cons_zero, List.getElem?_cons_succ]; rfl) (by kernel_rfl) (by kernel_rfl) (by kernel_rfl) (fun _ _ _ h => h) (Or.inl ⟨by rfl, fun W hSw => ?_⟩) (by assumption) ?_
          · have hcw0 := hSw.cell (k := 0) rfl
            have hcw1 := hSw.cell (k := 1) rfl
            have hcw2 := hSw.cell (k := 2) rfl
            go_simp
          simp only [Act.put, List.setIfInBounds_toArray, List.set_cons_zero, List.set_cons_succ]
          refine wpAnyH_ready (rs := [2]) (by kernel_rfl) (by simp) ?_
          refine AllReadyH.cons (by simp only [List.getElem?_toArray, List.getElem?_cons_zero, List.getElem?_cons_succ]; rfl) (fun K hK => ?_) AllReadyH.nil
          rw [if_pos (by rfl)]
          go_simp
          refine hK.out _ _ HQd.out (fun _ => ?_)
          clear hK K
          have y0 := HZd.out.cell (k := 0) rfl
          have z0 := HZd.out.frozen 0
          have y1 := HZd.out.cell (k := 1) rfl
          have z1 := HZd.out.frozen 1
          have y2 := HZd.out.cell (k := 2) rfl
          have z2 := HZd.out.frozen 2
          have HZs := hid (((HZd.out.set 0 (.int .i64 n0)).set 1 (.int .i64 n1)).set 2 (.int .i64 n2))
          have HQs := hid (((HQd.out.other (a := ⟨w.heap.size + 1, 0, none⟩) (.int .i64 n0) hne).other (a := ⟨w.heap.size + 1, 1, none⟩) (.int .i64 n1) hne).other (a := ⟨w.heap.size + 1, 2, none⟩) (.int .i64 n2) hne)
          have HBs := hid (((HBx.out.setCell (p := ⟨w.heap.size + 1, 0, none⟩) (Nat.le_succ _) (.int .i64 n0)).setCell (p := ⟨w.heap.size + 1, 1, none⟩) (Nat.le_succ _) (.int .i64 n1)).setCell (p := ⟨w.heap.size + 1, 2, none⟩) (Nat.le_succ _) (.int .i64 n2))
          refine wpAnyH_ready (rs := [3]) (by kernel_rfl) (by simp) ?_
          refine AllReadyH.cons (by simp only [List.getElem?_toArray, List.getElem?_cons_zero, List.getElem?_cons_succ]; rfl) (fun K hK => ?_) AllReadyH.nil
          rw [if_pos (by rfl)]
          go_simp
          refine hK.out _ _ HQs.out (fun _ => ?_)
          clear hK K
          clear y0 y1 y2 z0 z1 z2
          generalize ((wd.setCell ⟨w.heap.size + 1, 0, none⟩ (.int .i64 n0)).setCell ⟨w.heap.size + 1, 1, none⟩ (.int .i64 n1)).setCell ⟨w.heap.size + 1, 2, none⟩ (.int .i64 n2) = ws at *
          refine wpAnyH_ready (rs := [4]) (by kernel_rfl) (by simp) ?_
          refine AllReadyH.cons (by simp only [List.getElem?_toArray, List.getElem?_cons_zero, List.getElem?_cons_succ]; rfl) (fun K hK => ?_) AllReadyH.nil
          rw [if_pos (by rfl)]
          go_simp
          refine hK.out _ _ HQs.out (fun _ => ?_)
          clear hK K
          refine wpAnyH_done (by kernel_rfl) ?_ _
          refine NoPanic.normal ?_
          have p0 := HZs.out.cell (k := 0) rfl
          have p1 := HZs.out.cell (k := 1) rfl
          have p2 := HZs.out.cell (k := 2) rfl
          go_wp2
          refine bodyPost_ret (v := .tuple #[.int .i64 k, .agg #[.int .i64 n0, .int .i64 n1, .int .i64 n2], .int .i64 0]) (by simp [results, Tryz.results37, go_sem, p0, p1, p2]) rfl ?_
          exact ⟨rfl, HBs.out⟩
        · have hne2 : (o == off) = false := by simp; omega
          go_wp2
          go_roundw
          case rel => exact ⟨k + 1, by omega, by omega, rfl, fun j h1 h2 => by
            by_cases e : j = k
            · subst e
              rw [HTo.out]
              exact he
            · exact HNo.out j h1 (by omega), HBw2.out⟩
          case measure => have := HKb.out; simp [intOf]; omega
    · obtain rfl : k = 4 := by omega
      have hval : valF r0 r1 r2 lit off = off + 3 := by
        unfold valF
        rw [if_neg (HNo.out 1 (by omega) (by omega)), if_neg (HNo.out 2 (by omega) (by omega)), if_neg (HNo.out 3 (by omega) (by omega))]
      have hO := HO.out wr (off + 3) (by omega) (by omega)
      have ht : toldF r0 r1 r2 lit (off + 3) = (off, 3) := by
        unfold toldF
        rw [if_pos (by omega)]
        congr 1
        omega
      have hV := HV.out
      rw [hval, ht] at hV
      subst hV
      rw [ht] at hO
      dsimp only at hO
      rw [HWi.out, if_pos rfl] at hO
      have HOf : Hid (Calls Tryz.prog 65 #[.agg #[.int .i64 r0, .int .i64 r1, .int .i64 r2], .int .i64 lit, .int .i64 (off + 3)] wr (RetV wr (.tuple #[.int .i64 off, .agg #[.int .i64 off, .int .i64 r0, .int .i64 r1], .int .i64 0]))) := hid hO
      clear hO ht hval
      go_wp2_with fail
      clear c0 c1 c2
      refine HOf.out.mono ?_
      rintro e w4 ⟨rfl, hb⟩
      have hbn := hb.trans ((below_new w4 (.cells #[.int .i64 off, .int .i64 r0, .int .i64 r1] 40)).mono hb.size)
      have HN5 := hid (Blk.new w4 [.int .i64 off, .int .i64 r0, .int .i64 r1] 40)
      have HZ5 := hid (HZr.out.below hbn HZr.out.lt)
      have HB5 := hid (HBr.out.trans (hbn.mono HBr.out.size))
      have hlt4 : w.heap.size + 1 < w4.heap.size := Nat.lt_of_lt_of_le HZr.out.lt hb.size
      clear hb hbn HOf
      go_upto_region 10 with fail
      generalize w4.alloc (.cells #[.int .i64 off, .int .i64 r0, .int .i64 r1] 40) = w5 at *
      generalize w4.heap.size = q2 at *
      have HBd := hid (show Below w5.heap.size w5 w5.drew from (Below.refl _ _).drew)
      have HQd := hid (HN5.out.below HBd.out HN5.out.lt)
      have HZd := hid (HZ5.out.below HBd.out HZ5.out.lt)
      have HBx := hid (HB5.out.trans (HBd.out.mono HB5.out.size))
      have hne : (w.heap.size + 1 : Nat) ≠ q2 := by omega
      refine wp_region_noPanic ?_
      refine wp_region_held_drew (S := fun W' => Blk W' (q2) [.int .i64 off, .int .i64 r0, .int .i64 r1] 40) (by kernel_rfl) HQd.out (fun hHeld => ?_)
      clear HBd
      generalize w5.drew = wd at *
      refine wpAnyH_take (i := 0) (v := .int .i64 off) (by simp only [List.getElem?_toArray, List.getElem?_cons_zero]; rfl) (by kernel_rfl) (by kernel_rfl) (by kernel_rfl) (fun _ _ _ h => h) (Or.inl ⟨by rfl, fun W hSw => ?_⟩) (by assumption) ?_
      · clear hSw
        go_simp
      simp only [Act.put, List.setIfInBounds_toArray, List.set_cons_zero, List.set_cons_succ]
      refine wpAnyH_take (i := 1) (v := .int .i64 (off + 3)) (by simp only [List.getElem?_toArray, List.getElem?_cons_zero, List.getElem?_cons_succ]; rfl) (by kernel_rfl) (by kernel_rfl) (by kernel_rfl) (fun _ _ _ h => h) (Or.inl ⟨by rfl, fun W hSw => ?_⟩) (by assumption) ?_
      · clear hSw
        go_simp
      simp only [Act.put, List.setIfInBounds_toArray, List.set_cons_zero, List.set_cons_succ]
      refine wpAnyH_take (i := 2) (v := .agg #[.int .i64 off, .int .i64 r0, .int .i64 r1]) (by simp only [List.getElem?_toArray, List.getElem?_cons_zero, List.getElem?_cons_succ]; rfl) (by kernel_rfl) (by kernel_rfl) (by kernel_rfl) (fun _ _ _ h => h) (Or.inl ⟨by rfl, fun W hSw => ?_⟩) (by assumption) ?_
      · have hcw0 := hSw.cell (k := 0) rfl
        have hcw1 := hSw.cell (k := 1) rfl
        have hcw2 := hSw.cell (k := 2) rfl
        go_simp
      simp only [Act.put, List.setIfInBounds_toArray, List.set_cons_zero, List.set_cons_succ]
      refine wpAnyH_ready (rs := [3]) (by kernel_rfl) (by simp) ?_
      refine AllReadyH.cons (by simp only [List.getElem?_toArray, List.getElem?_cons_zero, List.getElem?_cons_succ]; rfl) (fun K hK => ?_) AllReadyH.nil
      rw [if_pos (by rfl)]
      go_simp
      refine hK.out _ _ HQd.out (fun _ => ?_)
      clear hK K
      have y0 := HZd.out.cell (k := 0) rfl
      have z0 := HZd.out.frozen 0
      have y1 := HZd.out.cell (k := 1) rfl
      have z1 := HZd.out.frozen 1
      have y2 := HZd.out.cell (k := 2) rfl
      have z2 := HZd.out.frozen 2
      have HZs := hid (((HZd.out.set 0 (.int .i64 off)).set 1 (.int .i64 r0)).set 2 (.int .i64 r1))
      have HQs := hid (((HQd.out.other (a := ⟨w.heap.size + 1, 0, none⟩) (.int .i64 off) hne).other (a := ⟨w.heap.size + 1, 1, none⟩) (.int .i64 r0) hne).other (a := ⟨w.heap.size + 1, 2, none⟩) (.int .i64 r1) hne)
      have HBs := hid (((HBx.out.setCell (p := ⟨w.heap.size + 1, 0, none⟩) (Nat.le_succ _) (.int .i64 off)).setCell (p := ⟨w.heap.size + 1, 1, none⟩) (Nat.le_succ _) (.int .i64 r0)).setCell (p := ⟨w.heap.size + 1, 2, none⟩) (Nat.le_succ _) (.int .i64 r1))
      refine wpAnyH_ready (rs := [4]) (by kernel_rfl) (by simp) ?_
      refine AllReadyH.cons (by simp only [List.getElem?_toArray, List.getElem?_cons_zero, List.getElem?_cons_succ]; rfl) (fun K hK => ?_) AllReadyH.nil
      rw [if_pos (by rfl)]
      go_simp
      refine hK.out _ _ HQs.out (fun _ => ?_)
      clear hK K
      clear y0 y1 y2 z0 z1 z2
      generalize ((wd.setCell ⟨w.heap.size + 1, 0, none⟩ (.int .i64 off)).setCell ⟨w.heap.size + 1, 1, none⟩ (.int .i64 r0)).setCell ⟨w.heap.size + 1, 2, none⟩ (.int .i64 r1) = ws at *
      refine wpAnyH_ready (rs := [5]) (by kernel_rfl) (by simp) ?_
      refine AllReadyH.cons (by simp only [List.getElem?_toArray, List.getElem?_cons_zero, List.getElem?_cons_succ]; rfl) (fun K hK => ?_) AllReadyH.nil
      rw [if_pos (by rfl)]
      go_simp
      refine hK.out _ _ HQs.out (fun _ => ?_)
      clear hK K
      refine wpAnyH_done (by kernel_rfl) ?_ _
      refine NoPanic.normal ?_
      have p0 := HZs.out.cell (k := 0) rfl
      have p1 := HZs.out.cell (k := 1) rfl
      have p2 := HZs.out.cell (k := 2) rfl
      go_wp2
      refine bodyPost_ret (v := .tuple #[.int .i64 (off + 3), .agg #[.int .i64 off, .int .i64 r0, .int .i64 r1], .int .i64 0]) (by simp [results, Tryz.results37, go_sem, p0, p1, p2]) rfl ?_
      exact ⟨rfl, HBs.out⟩
end Go.Proofs.YtolmmfbgljgdcaaGreat
