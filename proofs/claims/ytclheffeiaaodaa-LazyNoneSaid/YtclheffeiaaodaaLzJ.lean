/-
  The walks of layer 31's statements: finders made.
-/
import Derived.Test.YtclheffeiaaodaaMade
import Derived.Test.YtclheffeiaaodaaLaw
namespace Go.Proofs.Ytclheffeiaaodaa
open Go.RowKit Go.Port

theorem num_any (e : Int) (w : World) : Calls Try.prog 16 #[.int .i64 e] w fun r w' => r = .returned (.int .i64 e) ∧ w = w' := by
  go_enter Try.func16, Try.ntmps16
  go_wp2
  go_ret
  exact ⟨rfl, rfl⟩

set_option maxRecDepth 100000 in
set_option maxHeartbeats 4000000 in
theorem made_long (a1 a2 : Option Addr) (n1 n2 c1 c2 : Nat) (W dep : Int) (w : World) (h : ¬ ((n1 : Int) ≤ 150 ∧ (n2 : Int) ≤ 150)) :
    Calls Try.prog 11 #[.slice a1 n1 c1, .slice a2 n2 c2, .int .i64 W, .int .i64 dep] w (RetV w (.tuple #[.pointer none, fdv none 0 0 0 0 0, .bool false])) := by
  have hX := Blk.new w (fdc none 0 0 0 0 0) 25
  have hB := below_new w (.cells (fdc none 0 0 0 0 0).toArray 25)
  unfold fdc at hX hB
  have HB := hid hB
  have z0 := hX.frozen 0
  have z1 := hX.frozen 1
  have z2 := hX.frozen 2
  have z3 := hX.frozen 3
  have p0 := hX.cell (k := 0) rfl
  have p1 := hX.cell (k := 1) rfl
  have p2 := hX.cell (k := 2) rfl
  have p3 := hX.cell (k := 3) rfl
  unfold fdv
  clear hX hB
  have hc : (150 < (n1 : Int)) ∨ ((n1 : Int) ≤ 150 ∧ 150 < (n2 : Int)) := by omega
  clear h
  go_enter Try.func11, Try.ntmps11
  rcases hc with h | ⟨h1, h2⟩
  all_goals
    go_wp2
    refine bodyPost_ret (v := .tuple #[.pointer none, .agg #[.slice none 0 0, .int .i64 0, .int .i64 0, .int .i64 0], .bool false]) (by simp [results, Try.results11, go_sem]) rfl ?_
    exact ⟨rfl, HB.out⟩

set_option maxRecDepth 100000 in
set_option maxHeartbeats 4000000 in
theorem made_bad (a1 a2 : Option Addr) (n1 n2 c1 c2 : Nat) (W dep : Int) (w : World) (h1 : (n1 : Int) ≤ 150) (h2 : (n2 : Int) ≤ 150) (h : finderOk n2 W dep = false) :
    Calls Try.prog 11 #[.slice a1 n1 c1, .slice a2 n2 c2, .int .i64 W, .int .i64 dep] w (RetV w (.tuple #[.pointer none, fdv none 0 0 0 0 0, .bool false])) := by
  have HN := hid (fun W' => cnew_bad a1 a2 n1 n2 c1 c2 W dep W' h)
  have HR := hid (fun W' => rnew_bad a1 a2 n1 n2 c1 c2 W dep W' h)
  have HX := hid (Blk.new w (fdc none 0 0 0 0 0) 25)
  have HB := hid (below_new w (.cells (fdc none 0 0 0 0 0).toArray 25))
  unfold fdc at HX HB
  unfold fdv at HR ⊢
  clear h
  go_enter Try.func11, Try.ntmps11
  go_wp2_with fail
  refine (HN.out _).mono ?_
  rintro e w' ⟨rfl, rfl⟩
  go_wp2_with fail
  refine (HR.out _).mono ?_
  rintro e w2 ⟨rfl, hb2⟩
  have hX2 := (HX.out.below hb2 HX.out.lt).alloc (.cells #[.slice none 0 0, .int .i64 0, .int .i64 0, .int .i64 0] 25)
  have hB2 := (HB.out.trans (hb2.mono HB.out.size)).alloc (HB.out.trans (hb2.mono HB.out.size)).size (.cells #[.slice none 0 0, .int .i64 0, .int .i64 0, .int .i64 0] 25)
  have hY2 := Blk.new w2 [.slice none 0 0, .int .i64 0, .int .i64 0, .int .i64 0] 25
  have hne : w.heap.size ≠ w2.heap.size := by
    have h1 := hb2.size
    have h3 := HX.out.lt
    omega
  have HX2 := hid hX2
  have HB2 := hid hB2
  have HY2 := hid hY2
  clear hX2 hB2 hY2 hb2
  go_upto_region 5 with fail
  generalize (w2.alloc (.cells #[.slice none 0 0, .int .i64 0, .int .i64 0, .int .i64 0] 25)) = w3 at *
  generalize w2.heap.size = G at *
  go_wp2_with fail
  refine wp_region_noPanic ?_
  refine wp_region_held_drew (S := fun W' => Below w.heap.size w W' ∧ Blk W' G [.slice none 0 0, .int .i64 0, .int .i64 0, .int .i64 0] 25) (by kernel_rfl) ⟨HB2.out.drew, HY2.out⟩ (fun hHeld => ?_)
  have hX3 : Blk w3.drew w.heap.size [.slice none 0 0, .int .i64 0, .int .i64 0, .int .i64 0] 25 := HX2.out
  have hY3 : Blk w3.drew G [.slice none 0 0, .int .i64 0, .int .i64 0, .int .i64 0] 25 := HY2.out
  have hB3 := HB2.out.drew
  clear HX2 HY2 HB2
  generalize w3.drew = w4 at *
  refine wpAnyH_take (i := 0) (v := .pointer none) (by simp only [List.getElem?_toArray, List.getElem?_cons_zero]; rfl) (by kernel_rfl) (by kernel_rfl) (by kernel_rfl) (fun _ _ _ h => h) (Or.inl ⟨by rfl, fun W hSw => ?_⟩) (by assumption) ?_
  · clear hSw
    go_simp
  simp only [Act.put, List.setIfInBounds_toArray, List.set_cons_zero, List.set_cons_succ]
  refine wpAnyH_take (i := 1) (v := .agg #[.slice none 0 0, .int .i64 0, .int .i64 0, .int .i64 0]) (by simp only [List.getElem?_toArray, List.getElem?_cons_zero, List.getElem?_cons_succ]; rfl) (by kernel_rfl) (by kernel_rfl) (by kernel_rfl) (fun _ _ _ h => h) (Or.inl ⟨by rfl, fun W hSw => ?_⟩) (by assumption) ?_
  · have hcw0 := hSw.2.cell (k := 0) rfl
    have hcw1 := hSw.2.cell (k := 1) rfl
    have hcw2 := hSw.2.cell (k := 2) rfl
    have hcw3 := hSw.2.cell (k := 3) rfl
    go_simp
  simp only [Act.put, List.setIfInBounds_toArray, List.set_cons_zero, List.set_cons_succ]
  refine wpAnyH_take (i := 2) (v := .int .i64 2) (by simp only [List.getElem?_toArray, List.getElem?_cons_zero, List.getElem?_cons_succ]; rfl) (by kernel_rfl) (by kernel_rfl) (by kernel_rfl) (fun _ _ _ h => h) (Or.inl ⟨by rfl, fun W hSw => ?_⟩) (by assumption) ?_
  · clear hSw
    go_simp
  simp only [Act.put, List.setIfInBounds_toArray, List.set_cons_zero, List.set_cons_succ]
  refine wpAnyH_ready (rs := [3]) (by kernel_rfl) (by simp) ?_
  refine AllReadyH.cons (by simp only [List.getElem?_toArray, List.getElem?_cons_zero, List.getElem?_cons_succ]; rfl) (fun K hK => ?_) AllReadyH.nil
  rw [if_pos (by rfl)]
  go_simp
  go_at_call 16
  refine (num_any _ _).mono ?_
  rintro e w' ⟨rfl, rfl⟩
  dsimp only
  refine hK.out _ _ ⟨hB3, hY3⟩ (fun _ => ?_)
  clear hK K
  refine wpAnyH_take (i := 4) (v := .bool false) (by simp only [List.getElem?_toArray, List.getElem?_cons_zero, List.getElem?_cons_succ]; rfl) (by kernel_rfl) (by kernel_rfl) (by kernel_rfl) (fun _ _ _ h => h) (Or.inl ⟨by rfl, fun W hSw => ?_⟩) (by assumption) ?_
  · clear hSw
    go_simp
  simp only [Act.put, List.setIfInBounds_toArray, List.set_cons_zero, List.set_cons_succ]
  refine wpAnyH_take (i := 5) (v := .bool false) (by simp only [List.getElem?_toArray, List.getElem?_cons_zero, List.getElem?_cons_succ]; rfl) (by kernel_rfl) (by kernel_rfl) (by kernel_rfl) (fun _ _ _ h => h) (Or.inl ⟨by rfl, fun W hSw => ?_⟩) (by assumption) ?_
  · clear hSw
    go_simp
  simp only [Act.put, List.setIfInBounds_toArray, List.set_cons_zero, List.set_cons_succ]
  have hS3 := And.intro hB3 hY3
  refine wpAnyH_take (i := 6) (v := undef) (by simp only [List.getElem?_toArray, List.getElem?_cons_zero, List.getElem?_cons_succ]; rfl) (by kernel_rfl) (by kernel_rfl) (by kernel_rfl) (fun _ _ _ h => h) (Or.inr ⟨by rfl, rfl⟩) (by assumption) ?_
  simp only [Act.put, List.setIfInBounds_toArray, List.set_cons_zero, List.set_cons_succ]
  refine wpAnyH_take (i := 7) (v := undef) (by simp only [List.getElem?_toArray, List.getElem?_cons_zero, List.getElem?_cons_succ]; rfl) (by kernel_rfl) (by kernel_rfl) (by kernel_rfl) (fun _ _ _ h => h) (Or.inr ⟨by rfl, rfl⟩) (by assumption) ?_
  simp only [Act.put, List.setIfInBounds_toArray, List.set_cons_zero, List.set_cons_succ]
  refine wpAnyH_take (i := 8) (v := .bool false) (by simp only [List.getElem?_toArray, List.getElem?_cons_zero, List.getElem?_cons_succ]; rfl) (by kernel_rfl) (by kernel_rfl) (by kernel_rfl) (fun _ _ _ h => h) (Or.inl ⟨by rfl, fun W hSw => ?_⟩) (by assumption) ?_
  · clear hSw
    go_simp
  simp only [Act.put, List.setIfInBounds_toArray, List.set_cons_zero, List.set_cons_succ]
  refine wpAnyH_ready (rs := [9]) (by kernel_rfl) (by simp) ?_
  refine AllReadyH.cons (by simp only [List.getElem?_toArray, List.getElem?_cons_zero, List.getElem?_cons_succ]; rfl) (fun K hK => ?_) AllReadyH.nil
  rw [if_pos (by rfl)]
  go_simp
  refine hK.out _ _ ⟨hB3, hY3⟩ (fun _ => ?_)
  clear hK K
  have z0 := hX3.frozen 0
  have z1 := hX3.frozen 1
  have z2 := hX3.frozen 2
  have z3 := hX3.frozen 3
  have p0 := hX3.cell (k := 0) rfl
  have p1 := hX3.cell (k := 1) rfl
  have p2 := hX3.cell (k := 2) rfl
  have p3 := hX3.cell (k := 3) rfl
  have HX9 := hid ((((hX3.set 0 (.slice none 0 0)).set 1 (.int .i64 0)).set 2 (.int .i64 0)).set 3 (.int .i64 0))
  have HB9 := hid ((((hB3.setCell (p := ⟨w.heap.size, 0, none⟩) (Nat.le_refl _) (.slice none 0 0)).setCell (p := ⟨w.heap.size, 1, none⟩) (Nat.le_refl _) (.int .i64 0)).setCell (p := ⟨w.heap.size, 2, none⟩) (Nat.le_refl _) (.int .i64 0)).setCell (p := ⟨w.heap.size, 3, none⟩) (Nat.le_refl _) (.int .i64 0))
  have HY9 := hid ((((hY3.other (a := ⟨w.heap.size, 0, none⟩) (.slice none 0 0) hne).other (a := ⟨w.heap.size, 1, none⟩) (.int .i64 0) hne).other (a := ⟨w.heap.size, 2, none⟩) (.int .i64 0) hne).other (a := ⟨w.heap.size, 3, none⟩) (.int .i64 0) hne)
  refine wpAnyH_ready (rs := [10]) (by kernel_rfl) (by simp) ?_
  refine AllReadyH.cons (by simp only [List.getElem?_toArray, List.getElem?_cons_zero, List.getElem?_cons_succ]; rfl) (fun K hK => ?_) AllReadyH.nil
  rw [if_pos (by rfl)]
  go_simp
  refine hK.out _ _ ⟨HB9.out, HY9.out⟩ (fun _ => ?_)
  clear hK K
  refine wpAnyH_ready (rs := [11]) (by kernel_rfl) (by simp) ?_
  refine AllReadyH.cons (by simp only [List.getElem?_toArray, List.getElem?_cons_zero, List.getElem?_cons_succ]; rfl) (fun K hK => ?_) AllReadyH.nil
  rw [if_pos (by rfl)]
  go_simp
  refine hK.out _ _ ⟨HB9.out, HY9.out⟩ (fun _ => ?_)
  clear hK K
  refine wpAnyH_done (by kernel_rfl) ?_ _
  refine NoPanic.normal ?_
  clear z0 z1 z2 z3 p0 p1 p2 p3
  go_wp2
  have r0 := HX9.out.cell (k := 0) rfl
  have r1 := HX9.out.cell (k := 1) rfl
  have r2 := HX9.out.cell (k := 2) rfl
  have r3 := HX9.out.cell (k := 3) rfl
  refine bodyPost_ret (v := .tuple #[.pointer none, .agg #[.slice none 0 0, .int .i64 0, .int .i64 0, .int .i64 0], .bool false]) (by simp [results, Try.results11, go_sem, r0, r1, r2, r3]) rfl ?_
  exact ⟨rfl, HB9.out⟩

set_option maxRecDepth 100000 in
set_option maxHeartbeats 4000000 in
theorem made_ok (a1 a2 : Option Addr) (c1 c2 : Nat) (A D : List UInt8) (W dep : Int) (w : World) (hA : (A.length : Int) ≤ 150) (hD : (D.length : Int) ≤ 150) (h1 : A.length ≤ c1) (h2 : D.length ≤ c2) (h3 : a1 = none → c1 = 0) (h4 : a2 = none → c2 = 0)
    (hc1 : CellsAt w a1 (A.map bv)) (hc2 : CellsAt w a2 (D.map bv)) (h : finderOk D.length W dep = true) :
    Calls Try.prog 11 #[.slice a1 A.length c1, .slice a2 D.length c2, .int .i64 W, .int .i64 dep] w fun e w' => ∃ F a c, e = .returned (.tuple #[.pointer (some ⟨F, 0, none⟩), fdv a (A ++ D).length c A.length W dep, .bool true]) ∧ FdS w.heap.size 64 130 (A ++ D) A.length W dep F w' ∧ CellsAt w' a ((A ++ D).map bv) ∧ (A ++ D).length ≤ c ∧ Below w.heap.size w w' := by
  have hk : 1 ≤ W ∧ W ≤ 134217728 ∧ 1 ≤ dep ∧ dep ≤ 4096 := by
    unfold finderOk at h
    simp only [Bool.and_eq_true, decide_eq_true_eq] at h
    omega
  have hB := below_new w (.cells (fdc none 0 0 0 0 0).toArray 25)
  have HN := hid (cnew_ok a1 a2 c1 c2 A D W dep _ (by omega) (by omega) h1 h2 h3 h4 (hc1.low hB) (hc2.low hB) hk.1 hk.2.1 hk.2.2.1 hk.2.2.2)
  have HR := hid (fun W' (hW : Below w.heap.size w W') => rnew_ok a1 a2 c1 c2 A D W dep W' (by omega) (by omega) h1 h2 h3 h4 (hc1.low hW) (hc2.low hW) hk.1 hk.2.1 hk.2.2.1 hk.2.2.2)
  have HX := hid (Blk.new w (fdc none 0 0 0 0 0) 25)
  have HB := hid hB
  generalize A ++ D = bs at *
  unfold fdc at HX HB HN
  unfold fdv at HR ⊢
  clear h hB h1 h2 h3 h4 hc1 hc2 hk
  go_enter Try.func11, Try.ntmps11
  go_wp2_with fail
  refine HN.out.mono ?_
  rintro e w1 ⟨F, rfl, hF, hb1⟩
  have HX1 := hid (HX.out.below hb1 HX.out.lt)
  have HB1 := hid (HB.out.trans (hb1.mono HB.out.size))
  have HF := hid (show FdS (w.heap.size + 1) 64 130 bs A.length W dep F w1 from by simpa using hF)
  have HRc := hid (HR.out w1 HB1.out)
  clear hF hb1 HN HX HB HR
  go_wp2_with fail
  refine HRc.out.mono ?_
  rintro e w2 ⟨a, c, rfl, hac, hcl, hb2⟩
  have hX2 := (HX1.out.below hb2 HX1.out.lt).alloc (.cells #[.slice a bs.length c, .int .i64 (A.length : Int), .int .i64 W, .int .i64 dep] 25)
  have hB2 := (HB1.out.trans (hb2.mono HB1.out.size)).alloc (HB1.out.trans (hb2.mono HB1.out.size)).size (.cells #[.slice a bs.length c, .int .i64 (A.length : Int), .int .i64 W, .int .i64 dep] 25)
  have hY2 := Blk.new w2 [.slice a bs.length c, .int .i64 (A.length : Int), .int .i64 W, .int .i64 dep] 25
  have hne : w.heap.size ≠ w2.heap.size := by
    have h1 := hb2.size
    have h3 := HX1.out.lt
    omega
  have HFl := hid ((HF.out.low hb2).low (below_new w2 (.cells #[.slice a bs.length c, .int .i64 (A.length : Int), .int .i64 W, .int .i64 dep] 25)))
  have HCl := hid (hcl.low (below_new w2 (.cells #[.slice a bs.length c, .int .i64 (A.length : Int), .int .i64 W, .int .i64 dep] 25)))
  have HAc := hid hac
  have HX2 := hid hX2
  have HB2 := hid hB2
  have HY2 := hid hY2
  clear hX2 hB2 hY2 hb2 hcl hac HF HX1 HB1 HRc
  go_upto_region 5 with fail
  generalize (w2.alloc (.cells #[.slice a bs.length c, .int .i64 (A.length : Int), .int .i64 W, .int .i64 dep] 25)) = w3 at *
  generalize w2.heap.size = G at *
  go_wp2_with fail
  refine wp_region_noPanic ?_
  refine wp_region_held_drew (S := fun W' => Below w.heap.size w W' ∧ Blk W' G [.slice a bs.length c, .int .i64 (A.length : Int), .int .i64 W, .int .i64 dep] 25) (by kernel_rfl) ⟨HB2.out.drew, HY2.out⟩ (fun hHeld => ?_)
  have hX3 : Blk w3.drew w.heap.size [.slice none 0 0, .int .i64 0, .int .i64 0, .int .i64 0] 25 := HX2.out
  have hY3 : Blk w3.drew G [.slice a bs.length c, .int .i64 (A.length : Int), .int .i64 W, .int .i64 dep] 25 := HY2.out
  have hB3 := HB2.out.drew
  have hF3 := HFl.out.low (Below.refl w3.heap.size w3).drew
  have hC3 := HCl.out.low (Below.refl w3.heap.size w3).drew
  clear HFl HCl
  clear HX2 HY2 HB2
  generalize w3.drew = w4 at *
  refine wpAnyH_take (i := 0) (v := .pointer (some ⟨F, 0, none⟩)) (by simp only [List.getElem?_toArray, List.getElem?_cons_zero]; rfl) (by kernel_rfl) (by kernel_rfl) (by kernel_rfl) (fun _ _ _ h => h) (Or.inl ⟨by rfl, fun W hSw => ?_⟩) (by assumption) ?_
  · clear hSw
    go_simp
  simp only [Act.put, List.setIfInBounds_toArray, List.set_cons_zero, List.set_cons_succ]
  refine wpAnyH_take (i := 1) (v := .agg #[.slice a bs.length c, .int .i64 (A.length : Int), .int .i64 W, .int .i64 dep]) (by simp only [List.getElem?_toArray, List.getElem?_cons_zero, List.getElem?_cons_succ]; rfl) (by kernel_rfl) (by kernel_rfl) (by kernel_rfl) (fun _ _ _ h => h) (Or.inl ⟨by rfl, fun W hSw => ?_⟩) (by assumption) ?_
  · have hcw0 := hSw.2.cell (k := 0) rfl
    have hcw1 := hSw.2.cell (k := 1) rfl
    have hcw2 := hSw.2.cell (k := 2) rfl
    have hcw3 := hSw.2.cell (k := 3) rfl
    go_simp
  simp only [Act.put, List.setIfInBounds_toArray, List.set_cons_zero, List.set_cons_succ]
  refine wpAnyH_take (i := 2) (v := .int .i64 0) (by simp only [List.getElem?_toArray, List.getElem?_cons_zero, List.getElem?_cons_succ]; rfl) (by kernel_rfl) (by kernel_rfl) (by kernel_rfl) (fun _ _ _ h => h) (Or.inl ⟨by rfl, fun W hSw => ?_⟩) (by assumption) ?_
  · clear hSw
    go_simp
  simp only [Act.put, List.setIfInBounds_toArray, List.set_cons_zero, List.set_cons_succ]
  refine wpAnyH_ready (rs := [3]) (by kernel_rfl) (by simp) ?_
  refine AllReadyH.cons (by simp only [List.getElem?_toArray, List.getElem?_cons_zero, List.getElem?_cons_succ]; rfl) (fun K hK => ?_) AllReadyH.nil
  rw [if_pos (by rfl)]
  go_simp
  go_at_call 16
  refine (num_any _ _).mono ?_
  rintro e w' ⟨rfl, rfl⟩
  dsimp only
  refine hK.out _ _ ⟨hB3, hY3⟩ (fun _ => ?_)
  clear hK K
  refine wpAnyH_take (i := 4) (v := .bool true) (by simp only [List.getElem?_toArray, List.getElem?_cons_zero, List.getElem?_cons_succ]; rfl) (by kernel_rfl) (by kernel_rfl) (by kernel_rfl) (fun _ _ _ h => h) (Or.inl ⟨by rfl, fun W hSw => ?_⟩) (by assumption) ?_
  · clear hSw
    go_simp
  simp only [Act.put, List.setIfInBounds_toArray, List.set_cons_zero, List.set_cons_succ]
  refine wpAnyH_take (i := 5) (v := .bool true) (by simp only [List.getElem?_toArray, List.getElem?_cons_zero, List.getElem?_cons_succ]; rfl) (by kernel_rfl) (by kernel_rfl) (by kernel_rfl) (fun _ _ _ h => h) (Or.inl ⟨by rfl, fun W hSw => ?_⟩) (by assumption) ?_
  · clear hSw
    go_simp
  simp only [Act.put, List.setIfInBounds_toArray, List.set_cons_zero, List.set_cons_succ]
  have hS3 := And.intro hB3 hY3
  refine wpAnyH_take (i := 6) (v := .int .i64 0) (by simp only [List.getElem?_toArray, List.getElem?_cons_zero, List.getElem?_cons_succ]; rfl) (by kernel_rfl) (by kernel_rfl) (by kernel_rfl) (fun _ _ _ h => h) (Or.inl ⟨by rfl, fun W hSw => ?_⟩) (by assumption) ?_
  · clear hSw
    go_simp
  simp only [Act.put, List.setIfInBounds_toArray, List.set_cons_zero, List.set_cons_succ]
  refine wpAnyH_take (i := 7) (v := .bool true) (by simp only [List.getElem?_toArray, List.getElem?_cons_zero, List.getElem?_cons_succ]; rfl) (by kernel_rfl) (by kernel_rfl) (by kernel_rfl) (fun _ _ _ h => h) (Or.inl ⟨by rfl, fun W hSw => ?_⟩) (by assumption) ?_
  · clear hSw
    go_simp
  simp only [Act.put, List.setIfInBounds_toArray, List.set_cons_zero, List.set_cons_succ]
  refine wpAnyH_take (i := 8) (v := .bool true) (by simp only [List.getElem?_toArray, List.getElem?_cons_zero, List.getElem?_cons_succ]; rfl) (by kernel_rfl) (by kernel_rfl) (by kernel_rfl) (fun _ _ _ h => h) (Or.inl ⟨by rfl, fun W hSw => ?_⟩) (by assumption) ?_
  · clear hSw
    go_simp
  simp only [Act.put, List.setIfInBounds_toArray, List.set_cons_zero, List.set_cons_succ]
  refine wpAnyH_ready (rs := [9]) (by kernel_rfl) (by simp) ?_
  refine AllReadyH.cons (by simp only [List.getElem?_toArray, List.getElem?_cons_zero, List.getElem?_cons_succ]; rfl) (fun K hK => ?_) AllReadyH.nil
  rw [if_pos (by rfl)]
  go_simp
  refine hK.out _ _ ⟨hB3, hY3⟩ (fun _ => ?_)
  clear hK K
  have z0 := hX3.frozen 0
  have z1 := hX3.frozen 1
  have z2 := hX3.frozen 2
  have z3 := hX3.frozen 3
  have p0 := hX3.cell (k := 0) rfl
  have p1 := hX3.cell (k := 1) rfl
  have p2 := hX3.cell (k := 2) rfl
  have p3 := hX3.cell (k := 3) rfl
  have HX9 := hid ((((hX3.set 0 (.slice a bs.length c)).set 1 (.int .i64 (A.length : Int))).set 2 (.int .i64 W)).set 3 (.int .i64 dep))
  have HB9 := hid ((((hB3.setCell (p := ⟨w.heap.size, 0, none⟩) (Nat.le_refl _) (.slice a bs.length c)).setCell (p := ⟨w.heap.size, 1, none⟩) (Nat.le_refl _) (.int .i64 (A.length : Int))).setCell (p := ⟨w.heap.size, 2, none⟩) (Nat.le_refl _) (.int .i64 W)).setCell (p := ⟨w.heap.size, 3, none⟩) (Nat.le_refl _) (.int .i64 dep))
  have HY9 := hid ((((hY3.other (a := ⟨w.heap.size, 0, none⟩) (.slice a bs.length c) hne).other (a := ⟨w.heap.size, 1, none⟩) (.int .i64 (A.length : Int)) hne).other (a := ⟨w.heap.size, 2, none⟩) (.int .i64 W) hne).other (a := ⟨w.heap.size, 3, none⟩) (.int .i64 dep) hne)
  have HF9 := hid (((((hF3.set (a := ⟨w.heap.size, 0, none⟩) (Nat.lt_succ_self _) (.slice a bs.length c)).set (a := ⟨w.heap.size, 1, none⟩) (Nat.lt_succ_self _) (.int .i64 (A.length : Int))).set (a := ⟨w.heap.size, 2, none⟩) (Nat.lt_succ_self _) (.int .i64 W)).set (a := ⟨w.heap.size, 3, none⟩) (Nat.lt_succ_self _) (.int .i64 dep)).mono (Nat.le_succ _))
  have HC9 := hid (cells_away (cells_away (cells_away (cells_away hC3 hX3 rfl 0 (.slice a bs.length c)) (hX3.set 0 (.slice a bs.length c)) rfl 1 (.int .i64 (A.length : Int))) ((hX3.set 0 (.slice a bs.length c)).set 1 (.int .i64 (A.length : Int))) rfl 2 (.int .i64 W)) (((hX3.set 0 (.slice a bs.length c)).set 1 (.int .i64 (A.length : Int))).set 2 (.int .i64 W)) rfl 3 (.int .i64 dep))
  refine wpAnyH_ready (rs := [10]) (by kernel_rfl) (by simp) ?_
  refine AllReadyH.cons (by simp only [List.getElem?_toArray, List.getElem?_cons_zero, List.getElem?_cons_succ]; rfl) (fun K hK => ?_) AllReadyH.nil
  rw [if_pos (by rfl)]
  go_simp
  refine hK.out _ _ ⟨HB9.out, HY9.out⟩ (fun _ => ?_)
  clear hK K
  refine wpAnyH_ready (rs := [11]) (by kernel_rfl) (by simp) ?_
  refine AllReadyH.cons (by simp only [List.getElem?_toArray, List.getElem?_cons_zero, List.getElem?_cons_succ]; rfl) (fun K hK => ?_) AllReadyH.nil
  rw [if_pos (by rfl)]
  go_simp
  refine hK.out _ _ ⟨HB9.out, HY9.out⟩ (fun _ => ?_)
  clear hK K
  refine wpAnyH_done (by kernel_rfl) ?_ _
  refine NoPanic.normal ?_
  clear z0 z1 z2 z3 p0 p1 p2 p3
  go_wp2
  have r0 := HX9.out.cell (k := 0) rfl
  have r1 := HX9.out.cell (k := 1) rfl
  have r2 := HX9.out.cell (k := 2) rfl
  have r3 := HX9.out.cell (k := 3) rfl
  refine bodyPost_ret (v := .tuple #[.pointer (some ⟨F, 0, none⟩), .agg #[.slice a bs.length c, .int .i64 (A.length : Int), .int .i64 W, .int .i64 dep], .bool true]) (by simp [results, Try.results11, go_sem, r0, r1, r2, r3]) rfl ?_
  exact ⟨_, _, _, rfl, HF9.out, HC9.out, HAc.out, HB9.out⟩
end Go.Proofs.Ytclheffeiaaodaa
