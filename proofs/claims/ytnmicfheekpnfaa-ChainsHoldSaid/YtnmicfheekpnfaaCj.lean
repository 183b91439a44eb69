/-
  The walks of layer 29's statements: finders made, what is found, what is iterated over.
-/
import Derived.Test.YtnmicfheekpnfaaCa
import Derived.Test.YtnmicfheekpnfaaFdMore
import Derived.Test.YtnmicfheekpnfaaStepsGo
import Derived.Deep.CutRange
import Derived.LoopN
import Derived.Shelf.RegionOpen
import Derived.Sort.QuietIn
import Derived.Test.YtnmicfheekpnfaaLaw
namespace Go.Proofs.Ytnmicfheekpnfaa
open Go.RowKit Go.Port

theorem num_any (e : Int) (w : World) : Calls Try.prog 20 #[.int .i64 e] w fun r w' => r = .returned (.int .i64 e) ∧ w = w' := by
  go_enter Try.func20, Try.ntmps20
  go_wp2
  go_ret
  exact ⟨rfl, rfl⟩

set_option maxRecDepth 100000 in
set_option maxHeartbeats 4000000 in
theorem made_bad (a1 a2 : Option Addr) (n1 n2 c1 c2 : Nat) (W dep : Int) (w : World) (h : finderOk n2 W dep = false) :
    Calls Try.prog 11 #[.slice a1 n1 c1, .slice a2 n2 c2, .int .i64 W, .int .i64 dep] w (RetV w (.tuple #[.pointer none, fdv none 0 0 0 0 0, .bool false])) := by
  have HN := hid (fun W' => cnew_bad a1 a2 n1 n2 c1 c2 W dep W' h)
  have HR := hid (fun W' => rnew_bad a1 a2 n1 n2 c1 c2 W dep W' h)
  have HX := hid (Blk.new w (fdc none 0 0 0 0 0) 26)
  have HB := hid (below_new w (.cells (fdc none 0 0 0 0 0).toArray 26))
  unfold fdc at HX HB
  unfold fdv at HR ⊢
  clear h
  go_enter Try.func11, Try.ntmps11
  go_wp2_with fail
  refine (HN.out _).mono ?_
  rintro e w' ⟨rfl, rfl⟩
  go_wp2_with fail
  refine (HR.out _).mono ?_
  rintro e w2 ⟨rfl, hb2⟩
  have hX2 := (HX.out.below hb2 HX.out.lt).alloc (.cells #[.slice none 0 0, .int .i64 0, .int .i64 0, .int .i64 0] 26)
  have hB2 := (HB.out.trans (hb2.mono HB.out.size)).alloc (HB.out.trans (hb2.mono HB.out.size)).size (.cells #[.slice none 0 0, .int .i64 0, .int .i64 0, .int .i64 0] 26)
  have hY2 := Blk.new w2 [.slice none 0 0, .int .i64 0, .int .i64 0, .int .i64 0] 26
  have hne : w.heap.size ≠ w2.heap.size := by
    have h1 := hb2.size
    have h3 := HX.out.lt
    omega
  have HX2 := hid hX2
  have HB2 := hid hB2
  have HY2 := hid hY2
  clear hX2 hB2 hY2 hb2
  go_upto_region 3 with fail
  generalize (w2.alloc (.cells #[.slice none 0 0, .int .i64 0, .int .i64 0, .int .i64 0] 26)) = w3 at *
  generalize w2.heap.size = G at *
  go_wp2_with fail
  refine wp_region_noPanic ?_
  refine wp_region_held_drew (S := fun W' => Below w.heap.size w W' ∧ Blk W' G [.slice none 0 0, .int .i64 0, .int .i64 0, .int .i64 0] 26) (by kernel_rfl) ⟨HB2.out.drew, HY2.out⟩ (fun hHeld => ?_)
  have hX3 : Blk w3.drew w.heap.size [.slice none 0 0, .int .i64 0, .int .i64 0, .int .i64 0] 26 := HX2.out
  have hY3 : Blk w3.drew G [.slice none 0 0, .int .i64 0, .int .i64 0, .int .i64 0] 26 := HY2.out
  have hB3 := HB2.out.drew
  clear HX2 HY2 HB2
  generalize w3.drew = w4 at *
  refine wpAnyH_take (i := 0) (v := .pointer none) (by simp only [List.getElem?_toArray, List.getElem?_cons_zero]; rfl) (by kernel_rfl) (by kernel_rfl) (by kernel_rfl) (fun _ _ _ h => h) (Or.inl ⟨by rfl, fun W hSw => ?_⟩) (by assumption) ?_
  · clear hSw
    go_simp
  simp only [Act.put, List.setIfInBounds_toArray, List.set_cons_zero, List.set_cons_succ]
  refine wpAnyH_take (i := 1) (v := .agg #[.slice none 0 0, .int .i64 0, .int .i64 0, .int .i64 0]) (by simp only [List.getElem?_toArray, List.getElem?_cons_zero, List.getElem?_cons_succ]; rfl) (by kernel_rfl) (by kernel_rfl) (by kernel_rfl) (fun _ _ _ h => h) (Or.inl ⟨by rfl, fun W hSw => ?_⟩) (by assumption) ?_
  · have hcw0 := hSw.2.cell (k := 0) rfl
    have hcw1 := hSw.2.cell (k := 1) rfl
    have hcw2 := hSw.2.cell (k := 2) rfl
    have hcw3 := hSw.2.cell (k := 3) rfl
    go_simp
  simp only [Act.put, List.setIfInBounds_toArray, List.set_cons_zero, List.set_cons_succ]
  refine wpAnyH_take (i := 2) (v := .int .i64 2) (by simp only [List.getElem?_toArray, List.getElem?_cons_zero, List.getElem?_cons_succ]; rfl) (by kernel_rfl) (by kernel_rfl) (by kernel_rfl) (fun _ _ _ h => h) (Or.inl ⟨by rfl, fun W hSw => ?_⟩) (by assumption) ?_
  · clear hSw
    go_simp
  simp only [Act.put, List.setIfInBounds_toArray, List.set_cons_zero, List.set_cons_succ]
  refine wpAnyH_ready (rs := [3]) (by kernel_rfl) (by simp) ?_
  refine AllReadyH.cons (by simp only [List.getElem?_toArray, List.getElem?_cons_zero, List.getElem?_cons_succ]; rfl) (fun K hK => ?_) AllReadyH.nil
  rw [if_pos (by rfl)]
  go_simp
  go_at_call 20
  refine (num_any _ _).mono ?_
  rintro e w' ⟨rfl, rfl⟩
  dsimp only
  refine hK.out _ _ ⟨hB3, hY3⟩ (fun _ => ?_)
  clear hK K
  refine wpAnyH_take (i := 4) (v := .bool false) (by simp only [List.getElem?_toArray, List.getElem?_cons_zero, List.getElem?_cons_succ]; rfl) (by kernel_rfl) (by kernel_rfl) (by kernel_rfl) (fun _ _ _ h => h) (Or.inl ⟨by rfl, fun W hSw => ?_⟩) (by assumption) ?_
  · clear hSw
    go_simp
  simp only [Act.put, List.setIfInBounds_toArray, List.set_cons_zero, List.set_cons_succ]
  refine wpAnyH_take (i := 5) (v := .bool false) (by simp only [List.getElem?_toArray, List.getElem?_cons_zero, List.getElem?_cons_succ]; rfl) (by kernel_rfl) (by kernel_rfl) (by kernel_rfl) (fun _ _ _ h => h) (Or.inl ⟨by rfl, fun W hSw => ?_⟩) (by assumption) ?_
  · clear hSw
    go_simp
  simp only [Act.put, List.setIfInBounds_toArray, List.set_cons_zero, List.set_cons_succ]
  have hS3 := And.intro hB3 hY3
  refine wpAnyH_take (i := 6) (v := undef) (by simp only [List.getElem?_toArray, List.getElem?_cons_zero, List.getElem?_cons_succ]; rfl) (by kernel_rfl) (by kernel_rfl) (by kernel_rfl) (fun _ _ _ h => h) (Or.inr ⟨by rfl, rfl⟩) (by assumption) ?_
  simp only [Act.put, List.setIfInBounds_toArray, List.set_cons_zero, List.set_cons_succ]
  refine wpAnyH_take (i := 7) (v := undef) (by simp only [List.getElem?_toArray, List.getElem?_cons_zero, List.getElem?_cons_succ]; rfl) (by kernel_rfl) (by kernel_rfl) (by kernel_rfl) (fun _ _ _ h => h) (Or.inr ⟨by rfl, rfl⟩) (by assumption) ?_
  simp only [Act.put, List.setIfInBounds_toArray, List.set_cons_zero, List.set_cons_succ]
  refine wpAnyH_take (i := 8) (v := .bool false) (by simp only [List.getElem?_toArray, List.getElem?_cons_zero, List.getElem?_cons_succ]; rfl) (by kernel_rfl) (by kernel_rfl) (by kernel_rfl) (fun _ _ _ h => h) (Or.inl ⟨by rfl, fun W hSw => ?_⟩) (by assumption) ?_
  · clear hSw
    go_simp
  simp only [Act.put, List.setIfInBounds_toArray, List.set_cons_zero, List.set_cons_succ]
  refine wpAnyH_ready (rs := [9]) (by kernel_rfl) (by simp) ?_
  refine AllReadyH.cons (by simp only [List.getElem?_toArray, List.getElem?_cons_zero, List.getElem?_cons_succ]; rfl) (fun K hK => ?_) AllReadyH.nil
  rw [if_pos (by rfl)]
  go_simp
  refine hK.out _ _ ⟨hB3, hY3⟩ (fun _ => ?_)
  clear hK K
  have z0 := hX3.frozen 0
  have z1 := hX3.frozen 1
  have z2 := hX3.frozen 2
  have z3 := hX3.frozen 3
  have p0 := hX3.cell (k := 0) rfl
  have p1 := hX3.cell (k := 1) rfl
  have p2 := hX3.cell (k := 2) rfl
  have p3 := hX3.cell (k := 3) rfl
  have HX9 := hid ((((hX3.set 0 (.slice none 0 0)).set 1 (.int .i64 0)).set 2 (.int .i64 0)).set 3 (.int .i64 0))
  have HB9 := hid ((((hB3.setCell (p := ⟨w.heap.size, 0, none⟩) (Nat.le_refl _) (.slice none 0 0)).setCell (p := ⟨w.heap.size, 1, none⟩) (Nat.le_refl _) (.int .i64 0)).setCell (p := ⟨w.heap.size, 2, none⟩) (Nat.le_refl _) (.int .i64 0)).setCell (p := ⟨w.heap.size, 3, none⟩) (Nat.le_refl _) (.int .i64 0))
  have HY9 := hid ((((hY3.other (a := ⟨w.heap.size, 0, none⟩) (.slice none 0 0) hne).other (a := ⟨w.heap.size, 1, none⟩) (.int .i64 0) hne).other (a := ⟨w.heap.size, 2, none⟩) (.int .i64 0) hne).other (a := ⟨w.heap.size, 3, none⟩) (.int .i64 0) hne)
  refine wpAnyH_ready (rs := [10]) (by kernel_rfl) (by simp) ?_
  refine AllReadyH.cons (by simp only [List.getElem?_toArray, List.getElem?_cons_zero, List.getElem?_cons_succ]; rfl) (fun K hK => ?_) AllReadyH.nil
  rw [if_pos (by rfl)]
  go_simp
  refine hK.out _ _ ⟨HB9.out, HY9.out⟩ (fun _ => ?_)
  clear hK K
  refine wpAnyH_ready (rs := [11]) (by kernel_rfl) (by simp) ?_
  refine AllReadyH.cons (by simp only [List.getElem?_toArray, List.getElem?_cons_zero, List.getElem?_cons_succ]; rfl) (fun K hK => ?_) AllReadyH.nil
  rw [if_pos (by rfl)]
  go_simp
  refine hK.out _ _ ⟨HB9.out, HY9.out⟩ (fun _ => ?_)
  clear hK K
  refine wpAnyH_done (by kernel_rfl) ?_ _
  refine NoPanic.normal ?_
  clear z0 z1 z2 z3 p0 p1 p2 p3
  go_wp2
  have r0 := HX9.out.cell (k := 0) rfl
  have r1 := HX9.out.cell (k := 1) rfl
  have r2 := HX9.out.cell (k := 2) rfl
  have r3 := HX9.out.cell (k := 3) rfl
  refine bodyPost_ret (v := .tuple #[.pointer none, .agg #[.slice none 0 0, .int .i64 0, .int .i64 0, .int .i64 0], .bool false]) (by simp [results, Try.results11, go_sem, r0, r1, r2, r3]) rfl ?_
  exact ⟨rfl, HB9.out⟩

set_option maxRecDepth 100000 in
set_option maxHeartbeats 4000000 in
theorem made_ok (a1 a2 : Option Addr) (c1 c2 : Nat) (A D : List UInt8) (W dep : Int) (w : World) (hA : A.length ≤ 800000) (hD : (D.length : Int) ≤ 131072) (h1 : A.length ≤ c1) (h2 : D.length ≤ c2) (h3 : a1 = none → c1 = 0) (h4 : a2 = none → c2 = 0)
    (hc1 : CellsAt w a1 (A.map bv)) (hc2 : CellsAt w a2 (D.map bv)) (h : finderOk D.length W dep = true) :
    Calls Try.prog 11 #[.slice a1 A.length c1, .slice a2 D.length c2, .int .i64 W, .int .i64 dep] w fun e w' => ∃ F a c, e = .returned (.tuple #[.pointer (some ⟨F, 0, none⟩), fdv a (A ++ D).length c A.length W dep, .bool true]) ∧ FdS w.heap.size 62 100 (A ++ D) A.length W dep F w' ∧ CellsAt w' a ((A ++ D).map bv) ∧ (A ++ D).length ≤ c ∧ Below w.heap.size w w' := by
  have hk : 1 ≤ W ∧ W ≤ 134217728 ∧ 1 ≤ dep ∧ dep ≤ 4096 := by
    unfold finderOk at h
    simp only [Bool.and_eq_true, decide_eq_true_eq] at h
    omega
  have hB := below_new w (.cells (fdc none 0 0 0 0 0).toArray 26)
  have HN := hid (cnew_ok a1 a2 c1 c2 A D W dep _ (by omega) (by omega) h1 h2 h3 h4 (hc1.low hB) (hc2.low hB) hk.1 hk.2.1 hk.2.2.1 hk.2.2.2)
  have HR := hid (fun W' (hW : Below w.heap.size w W') => rnew_ok a1 a2 c1 c2 A D W dep W' (by omega) (by omega) h1 h2 h3 h4 (hc1.low hW) (hc2.low hW) hk.1 hk.2.1 hk.2.2.1 hk.2.2.2)
  have HX := hid (Blk.new w (fdc none 0 0 0 0 0) 26)
  have HB := hid hB
  generalize A ++ D = bs at *
  unfold fdc at HX HB HN
  unfold fdv at HR ⊢
  clear h hB h1 h2 h3 h4 hc1 hc2 hk
  go_enter Try.func11, Try.ntmps11
  go_wp2_with fail
  refine HN.out.mono ?_
  rintro e w1 ⟨F, rfl, hF, hb1⟩
  have HX1 := hid (HX.out.below hb1 HX.out.lt)
  have HB1 := hid (HB.out.trans (hb1.mono HB.out.size))
  have HF := hid (show FdS (w.heap.size + 1) 62 100 bs A.length W dep F w1 from by simpa using hF)
  have HRc := hid (HR.out w1 HB1.out)
  clear hF hb1 HN HX HB HR
  go_wp2_with fail
  refine HRc.out.mono ?_
  rintro e w2 ⟨a, c, rfl, hac, hcl, hb2⟩
  have hX2 := (HX1.out.below hb2 HX1.out.lt).alloc (.cells #[.slice a bs.length c, .int .i64 (A.length : Int), .int .i64 W, .int .i64 dep] 26)
  have hB2 := (HB1.out.trans (hb2.mono HB1.out.size)).alloc (HB1.out.trans (hb2.mono HB1.out.size)).size (.cells #[.slice a bs.length c, .int .i64 (A.length : Int), .int .i64 W, .int .i64 dep] 26)
  have hY2 := Blk.new w2 [.slice a bs.length c, .int .i64 (A.length : Int), .int .i64 W, .int .i64 dep] 26
  have hne : w.heap.size ≠ w2.heap.size := by
    have h1 := hb2.size
    have h3 := HX1.out.lt
    omega
  have HFl := hid ((HF.out.low hb2).low (below_new w2 (.cells #[.slice a bs.length c, .int .i64 (A.length : Int), .int .i64 W, .int .i64 dep] 26)))
  have HCl := hid (hcl.low (below_new w2 (.cells #[.slice a bs.length c, .int .i64 (A.length : Int), .int .i64 W, .int .i64 dep] 26)))
  have HAc := hid hac
  have HX2 := hid hX2
  have HB2 := hid hB2
  have HY2 := hid hY2
  clear hX2 hB2 hY2 hb2 hcl hac HF HX1 HB1 HRc
  go_upto_region 3 with fail
  generalize (w2.alloc (.cells #[.slice a bs.length c, .int .i64 (A.length : Int), .int .i64 W, .int .i64 dep] 26)) = w3 at *
  generalize w2.heap.size = G at *
  go_wp2_with fail
  refine wp_region_noPanic ?_
  refine wp_region_held_drew (S := fun W' => Below w.heap.size w W' ∧ Blk W' G [.slice a bs.length c, .int .i64 (A.length : Int), .int .i64 W, .int .i64 dep] 26) (by kernel_rfl) ⟨HB2.out.drew, HY2.out⟩ (fun hHeld => ?_)
  have hX3 : Blk w3.drew w.heap.size [.slice none 0 0, .int .i64 0, .int .i64 0, .int .i64 0] 26 := HX2.out
  have hY3 : Blk w3.drew G [.slice a bs.length c, .int .i64 (A.length : Int), .int .i64 W, .int .i64 dep] 26 := HY2.out
  have hB3 := HB2.out.drew
  have hF3 := HFl.out.low (Below.refl w3.heap.size w3).drew
  have hC3 := HCl.out.low (Below.refl w3.heap.size w3).drew
  clear HFl HCl
  clear HX2 HY2 HB2
  generalize w3.drew = w4 at *
  refine wpAnyH_take (i := 0) (v := .pointer (some ⟨F, 0, none⟩)) (by simp only [List.getElem?_toArray, List.getElem?_cons_zero]; rfl) (by kernel_rfl) (by kernel_rfl) (by kernel_rfl) (fun _ _ _ h => h) (Or.inl ⟨by rfl, fun W hSw => ?_⟩) (by assumption) ?_
  · clear hSw
    go_simp
  simp only [Act.put, List.setIfInBounds_toArray, List.set_cons_zero, List.set_cons_succ]
  refine wpAnyH_take (i := 1) (v := .agg #[.slice a bs.length c, .int .i64 (A.length : Int), .int .i64 W, .int .i64 dep]) (by simp only [List.getElem?_toArray, List.getElem?_cons_zero, List.getElem?_cons_succ]; rfl) (by kernel_rfl) (by kernel_rfl) (by kernel_rfl) (fun _ _ _ h => h) (Or.inl ⟨by rfl, fun W hSw => ?_⟩) (by assumption) ?_
  · have hcw0 := hSw.2.cell (k := 0) rfl
    have hcw1 := hSw.2.cell (k := 1) rfl
    have hcw2 := hSw.2.cell (k := 2) rfl
    have hcw3 := hSw.2.cell (k := 3) rfl
    go_simp
  simp only [Act.put, List.setIfInBounds_toArray, List.set_cons_zero, List.set_cons_succ]
  refine wpAnyH_take (i := 2) (v := .int .i64 0) (by simp only [List.getElem?_toArray, List.getElem?_cons_zero, List.getElem?_cons_succ]; rfl) (by kernel_rfl) (by kernel_rfl) (by kernel_rfl) (fun _ _ _ h => h) (Or.inl ⟨by rfl, fun W hSw => ?_⟩) (by assumption) ?_
  · clear hSw
    go_simp
  simp only [Act.put, List.setIfInBounds_toArray, List.set_cons_zero, List.set_cons_succ]
  refine wpAnyH_ready (rs := [3]) (by kernel_rfl) (by simp) ?_
  refine AllReadyH.cons (by simp only [List.getElem?_toArray, List.getElem?_cons_zero, List.getElem?_cons_succ]; rfl) (fun K hK => ?_) AllReadyH.nil
  rw [if_pos (by rfl)]
  go_simp
  go_at_call 20
  refine (num_any _ _).mono ?_
  rintro e w' ⟨rfl, rfl⟩
  dsimp only
  refine hK.out _ _ ⟨hB3, hY3⟩ (fun _ => ?_)
  clear hK K
  refine wpAnyH_take (i := 4) (v := .bool true) (by simp only [List.getElem?_toArray, List.getElem?_cons_zero, List.getElem?_cons_succ]; rfl) (by kernel_rfl) (by kernel_rfl) (by kernel_rfl) (fun _ _ _ h => h) (Or.inl ⟨by rfl, fun W hSw => ?_⟩) (by assumption) ?_
  · clear hSw
    go_simp
  simp only [Act.put, List.setIfInBounds_toArray, List.set_cons_zero, List.set_cons_succ]
  refine wpAnyH_take (i := 5) (v := .bool true) (by simp only [List.getElem?_toArray, List.getElem?_cons_zero, List.getElem?_cons_succ]; rfl) (by kernel_rfl) (by kernel_rfl) (by kernel_rfl) (fun _ _ _ h => h) (Or.inl ⟨by rfl, fun W hSw => ?_⟩) (by assumption) ?_
  · clear hSw
    go_simp
  simp only [Act.put, List.setIfInBounds_toArray, List.set_cons_zero, List.set_cons_succ]
  have hS3 := And.intro hB3 hY3
  refine wpAnyH_take (i := 6) (v := .int .i64 0) (by simp only [List.getElem?_toArray, List.getElem?_cons_zero, List.getElem?_cons_succ]; rfl) (by kernel_rfl) (by kernel_rfl) (by kernel_rfl) (fun _ _ _ h => h) (Or.inl ⟨by rfl, fun W hSw => ?_⟩) (by assumption) ?_
  · clear hSw
    go_simp
  simp only [Act.put, List.setIfInBounds_toArray, List.set_cons_zero, List.set_cons_succ]
  refine wpAnyH_take (i := 7) (v := .bool true) (by simp only [List.getElem?_toArray, List.getElem?_cons_zero, List.getElem?_cons_succ]; rfl) (by kernel_rfl) (by kernel_rfl) (by kernel_rfl) (fun _ _ _ h => h) (Or.inl ⟨by rfl, fun W hSw => ?_⟩) (by assumption) ?_
  · clear hSw
    go_simp
  simp only [Act.put, List.setIfInBounds_toArray, List.set_cons_zero, List.set_cons_succ]
  refine wpAnyH_take (i := 8) (v := .bool true) (by simp only [List.getElem?_toArray, List.getElem?_cons_zero, List.getElem?_cons_succ]; rfl) (by kernel_rfl) (by kernel_rfl) (by kernel_rfl) (fun _ _ _ h => h) (Or.inl ⟨by rfl, fun W hSw => ?_⟩) (by assumption) ?_
  · clear hSw
    go_simp
  simp only [Act.put, List.setIfInBounds_toArray, List.set_cons_zero, List.set_cons_succ]
  refine wpAnyH_ready (rs := [9]) (by kernel_rfl) (by simp) ?_
  refine AllReadyH.cons (by simp only [List.getElem?_toArray, List.getElem?_cons_zero, List.getElem?_cons_succ]; rfl) (fun K hK => ?_) AllReadyH.nil
  rw [if_pos (by rfl)]
  go_simp
  refine hK.out _ _ ⟨hB3, hY3⟩ (fun _ => ?_)
  clear hK K
  have z0 := hX3.frozen 0
  have z1 := hX3.frozen 1
  have z2 := hX3.frozen 2
  have z3 := hX3.frozen 3
  have p0 := hX3.cell (k := 0) rfl
  have p1 := hX3.cell (k := 1) rfl
  have p2 := hX3.cell (k := 2) rfl
  have p3 := hX3.cell (k := 3) rfl
  have HX9 := hid ((((hX3.set 0 (.slice a bs.length c)).set 1 (.int .i64 (A.length : Int))).set 2 (.int .i64 W)).set 3 (.int .i64 dep))
  have HB9 := hid ((((hB3.setCell (p := ⟨w.heap.size, 0, none⟩) (Nat.le_refl _) (.slice a bs.length c)).setCell (p := ⟨w.heap.size, 1, none⟩) (Nat.le_refl _) (.int .i64 (A.length : Int))).setCell (p := ⟨w.heap.size, 2, none⟩) (Nat.le_refl _) (.int .i64 W)).setCell (p := ⟨w.heap.size, 3, none⟩) (Nat.le_refl _) (.int .i64 dep))
  have HY9 := hid ((((hY3.other (a := ⟨w.heap.size, 0, none⟩) (.slice a bs.length c) hne).other (a := ⟨w.heap.size, 1, none⟩) (.int .i64 (A.length : Int)) hne).other (a := ⟨w.heap.size, 2, none⟩) (.int .i64 W) hne).other (a := ⟨w.heap.size, 3, none⟩) (.int .i64 dep) hne)
  have HF9 := hid (((((hF3.set (a := ⟨w.heap.size, 0, none⟩) (Nat.lt_succ_self _) (.slice a bs.length c)).set (a := ⟨w.heap.size, 1, none⟩) (Nat.lt_succ_self _) (.int .i64 (A.length : Int))).set (a := ⟨w.heap.size, 2, none⟩) (Nat.lt_succ_self _) (.int .i64 W)).set (a := ⟨w.heap.size, 3, none⟩) (Nat.lt_succ_self _) (.int .i64 dep)).mono (Nat.le_succ _))
  have HC9 := hid (cells_away (cells_away (cells_away (cells_away hC3 hX3 rfl 0 (.slice a bs.length c)) (hX3.set 0 (.slice a bs.length c)) rfl 1 (.int .i64 (A.length : Int))) ((hX3.set 0 (.slice a bs.length c)).set 1 (.int .i64 (A.length : Int))) rfl 2 (.int .i64 W)) (((hX3.set 0 (.slice a bs.length c)).set 1 (.int .i64 (A.length : Int))).set 2 (.int .i64 W)) rfl 3 (.int .i64 dep))
  refine wpAnyH_ready (rs := [10]) (by kernel_rfl) (by simp) ?_
  refine AllReadyH.cons (by simp only [List.getElem?_toArray, List.getElem?_cons_zero, List.getElem?_cons_succ]; rfl) (fun K hK => ?_) AllReadyH.nil
  rw [if_pos (by rfl)]
  go_simp
  refine hK.out _ _ ⟨HB9.out, HY9.out⟩ (fun _ => ?_)
  clear hK K
  refine wpAnyH_ready (rs := [11]) (by kernel_rfl) (by simp) ?_
  refine AllReadyH.cons (by simp only [List.getElem?_toArray, List.getElem?_cons_zero, List.getElem?_cons_succ]; rfl) (fun K hK => ?_) AllReadyH.nil
  rw [if_pos (by rfl)]
  go_simp
  refine hK.out _ _ ⟨HB9.out, HY9.out⟩ (fun _ => ?_)
  clear hK K
  refine wpAnyH_done (by kernel_rfl) ?_ _
  refine NoPanic.normal ?_
  clear z0 z1 z2 z3 p0 p1 p2 p3
  go_wp2
  have r0 := HX9.out.cell (k := 0) rfl
  have r1 := HX9.out.cell (k := 1) rfl
  have r2 := HX9.out.cell (k := 2) rfl
  have r3 := HX9.out.cell (k := 3) rfl
  refine bodyPost_ret (v := .tuple #[.pointer (some ⟨F, 0, none⟩), .agg #[.slice a bs.length c, .int .i64 (A.length : Int), .int .i64 W, .int .i64 dep], .bool true]) (by simp [results, Try.results11, go_sem, r0, r1, r2, r3]) rfl ?_
  exact ⟨_, _, _, rfl, HF9.out, HC9.out, HAc.out, HB9.out⟩

theorem made_any (v1 v2 : Value) (A D : List UInt8) (W dep : Int) (w : World) (hA : A.length ≤ 1000) (hD : D.length ≤ 1000) (h1 : Rs w 1 v1 A.length (A.map bv)) (h2 : Rs w 1 v2 D.length (D.map bv)) :
    Calls Try.prog 11 #[v1, v2, .int .i64 W, .int .i64 dep] w fun e w' => (e = .returned (.tuple #[.pointer none, fdv none 0 0 0 0 0, .bool false]) ∧ Below w.heap.size w w') ∨
      (MadeOk 1000 A D W dep ∧ ∃ F a c, e = .returned (.tuple #[.pointer (some ⟨F, 0, none⟩), fdv a (A ++ D).length c A.length W dep, .bool true]) ∧ FdAt 62 100 (A ++ D) A.length W dep F w' ∧ CellsAt w' a ((A ++ D).map bv) ∧ (A ++ D).length ≤ c ∧ Below w.heap.size w w') := by
  obtain ⟨_, a1, c1, rfl, hc1, _, hn1, hcell1⟩ := h1
  obtain ⟨_, a2, c2, rfl, hc2, _, hn2, hcell2⟩ := h2
  cases hk : finderOk D.length W dep with
  | false => exact (made_bad a1 a2 A.length D.length c1 c2 W dep w hk).mono fun _ _ h => .inl h
  | true =>
    refine (made_ok a1 a2 c1 c2 A D W dep w (by omega) (by omega) hc1 hc2 hn1 hn2 hcell1 hcell2 hk).mono ?_
    rintro e w' ⟨F, a, c, h3, h4, h5, h6, h7⟩
    exact .inr ⟨⟨by omega, by omega, hk⟩, F, a, c, h3, h4.at, h5, h6, h7⟩

theorem finds_any (bs : List UInt8) (A : Nat) (W D : Int) (F : Nat) (p n off : Int) (w : World) (h : FdAt 62 100 bs A W D F w) (e1 : (findS bs A W D p).getD Sq.zero = ⟨0, n, off⟩) (e2 : (findS bs A W D p).isSome = decide (0 < n)) :
    Calls Try.prog 29 #[.pointer (some ⟨F, 0, none⟩), .int .i64 p, .int .i64 n, .int .i64 off] w (RetV w (.bool true)) := by
  have HF := hid (cfind_any bs A W D F p w h)
  rw [e1, e2] at HF
  unfold sqv at HF
  dsimp only at HF
  clear h e1 e2
  go_enter Try.func29, Try.ntmps29
  go_wp2_with fail
  refine HF.out.mono ?_
  rintro e w1 ⟨rfl, hb⟩
  have HB := hid (hb.alloc hb.size (.cells #[.int .i64 0, .int .i64 n, .int .i64 off] 30))
  clear hb
  go_wp2
  go_ret
  exact ⟨rfl, HB.out⟩

attribute [local go_sem] Oper.semAt_some

theorem fn_nilS (f : Nat) (lb : Array Value) (w : World) : (binOp .eql 66 (.func (.func f) #[] lb) .nilFunc).run Try.prog w = .ok (.bool false) w := by kernel_rfl

set_option maxRecDepth 1000000 in
set_option maxHeartbeats 8000000 in
theorem over_any (bs : List UInt8) (A : Nat) (W D : Int) (F : Nat) (p many : Int) (al : Option Addr) (cl : Nat) (w : World) (h : FdAt 62 100 bs A W D F w) (hc : CellsAt w al ((allS bs A W D p).flatMap sqc)) (hmb : -9223372036854775808 ≤ many ∧ many ≤ 9223372036854775807) :
    Calls Try.prog 18 #[.pointer (some ⟨F, 0, none⟩), .int .i64 p, .slice al (allS bs A W D p).length cl, .int .i64 many] w (RetV w (.bool true)) := by
  have hll := allS_length bs A W D p (by have := h.hD.1; omega)
  have hD4 := h.hD.2
  have hml : (allS bs A W D p).length ≤ 5000 := by omega
  obtain ⟨w0, hw0⟩ : ∃ w0, w0 = ((w.alloc (.cells #[.slice al (allS bs A W D p).length cl] 38)).alloc (.cells #[.int .i64 many] 3)).alloc (.cells #[.bool false] 4) := ⟨_, rfl⟩
  have hs1 : (w.alloc (.cells #[.slice al (allS bs A W D p).length cl] 38)).heap.size = w.heap.size + 1 := by simp
  have hs2 : ((w.alloc (.cells #[.slice al (allS bs A W D p).length cl] 38)).alloc (.cells #[.int .i64 many] 3)).heap.size = w.heap.size + 2 := by simp
  have hb0 : Below w.heap.size w w0 := by rw [hw0]; exact ((below_new w _).alloc (by simp) _).alloc (by simp; omega) _
  have HL0 := hid (show Blk w0 w.heap.size [.slice al (allS bs A W D p).length cl] 38 from by rw [hw0]; exact ((Blk.new w [.slice al (allS bs A W D p).length cl] 38).alloc _).alloc _)
  have HM0 := hid (show Blk w0 (w.heap.size + 1) [.int .i64 many] 3 from by
    rw [hw0]
    have := Blk.new (w.alloc (.cells #[.slice al (allS bs A W D p).length cl] 38)) [.int .i64 many] 3
    rw [hs1] at this
    exact this.alloc _)
  have HR0 := hid (show Blk w0 (w.heap.size + 2) [.bool false] 4 from by
    rw [hw0]
    have := Blk.new ((w.alloc (.cells #[.slice al (allS bs A W D p).length cl] 38)).alloc (.cells #[.int .i64 many] 3)) [.bool false] 4
    rw [hs2] at this
    exact this)
  have HB0 := hid hb0
  have HC0 := hid (hc.low hb0)
  have HAll := hid (call_any bs A W D F p w0 (h.low hb0))
  have HW0 := hid hw0
  generalize allS bs A W D p = ml at *
  clear h hc hb0 hll hD4 hs1 hs2 hw0
  refine (callsIn_wide (n := 1)).1 ?_
  refine callsIn_of_wp_marks Try.func18 rfl trivial ?_ rfl
  simp only [Try.ntmps18, List.size_toArray, List.length_cons, List.length_nil, Nat.reduceAdd, Nat.reduceSub, Array.replicate_succ, Array.replicate_zero, List.push_toArray, List.append_toArray, List.nil_append, List.cons_append]
  refine wpIn_wide.2 ?_
  go_wp2_with fail
  rw [← HW0.out]
  clear HW0
  refine HAll.out.mono ?_
  rintro e w5 ⟨g, a5, c5, rfl, hg5, hgb, hgc, hgl, hb5⟩
  have hfn := fun W => fn_nilS 56 #[.pointer (some ⟨g, 0, none⟩)] W
  have HL5 := hid (HL0.out.below hb5 HL0.out.lt)
  have HM5 := hid (HM0.out.below hb5 HM0.out.lt)
  have HR5 := hid (HR0.out.below hb5 HR0.out.lt)
  have HB5 := hid (HB0.out.trans (hb5.mono HB0.out.size))
  have HC5 := hid (HC0.out.low hb5)
  have HG5 := hid hgb
  have HGc := hid hgc
  clear hgb hgc hb5 hg5 hgl HL0 HM0 HR0 HB0 HC0 HAll
  go_wp2_with fail
  clear hfn
  refine (wpIn_wide (n := 1)).1 ?_
  have hbW : Below w5.heap.size w5 (w5.alloc (.cells #[.int .i64 0] 3)) := below_new w5 _
  have hsz : (w5.alloc (.cells #[.int .i64 0] 3)).heap.size = w5.heap.size + 1 := by simp
  obtain ⟨⟩ : True := trivial
  apply wpIn_rangeStB (gf := 56) (lb := #[.pointer (some ⟨g, 0, none⟩)]) rfl (enters_of Try.func56 (by kernel_rfl) rfl) (encs := encsP)
    (call1_seq (fun k => k < w5.heap.size) (fun _ => false) g a5 c5 ml (w5.alloc (.cells #[.int .i64 0] 3)) (by omega) HG5.out.lt ((HG5.out.below hbW HG5.out.lt).cell (k := 0) rfl) (fun j u hu => by
      obtain ⟨b, off, e, hb, hc⟩ := HGc.out j u hu
      exact ⟨b, off, e, hb, (hbW.cell (p := ⟨b, off + j, none⟩) hb).trans hc⟩)) (fun _ => rfl)
    (ITc w5 3 many true) (IXc w5 3 many true 0) (ITc.stays w5 _ many true (by omega)) (fun c => IXc.stays w5 _ many true 0 c (by omega)) (ITc.start w5 _ many true)
    0 (FTc w5 3 many true (enumQ ml).length) ITc.fin IXc.fin (fun _ _ h => h) (fun x => sqc x.2) 30
  case hassign =>
    intro l' pre x W K hI hSp hK
    unfold encsP sqv
    obtain ⟨q, hq⟩ : ∃ q, q = W.heap.size := ⟨_, rfl⟩
    have HK := hid (hK q hq)
    have HQ := hid hq
    clear hK hI hSp hq
    gi_wp2
    rw [← HQ.out]
    exact HK.out
  case hbody =>
    rintro l' pre ⟨x1, ⟨xl, xn, xo⟩⟩ q W hI hq hSp
    obtain ⟨hn1, hx1⟩ := enumQ_next hSp
    have hn2 : pre.length < ml.length := (List.getElem?_eq_some_iff.1 hn1).1
    dsimp only at hn1 hx1
    subst hx1
    have hL := HL5.out.below hI.low HL5.out.lt
    have hM := HM5.out.below hI.low HM5.out.lt
    have hcn := hI.n.cell (k := 0) rfl
    have hzn := hI.n.frozen 0
    have hcw := hL.cell (k := 0) rfl
    have hmc := hM.cell (k := 0) rfl
    have q0 := hq.cell (k := 0) rfl
    have q1 := hq.cell (k := 1) rfl
    have q2 := hq.cell (k := 2) rfl
    dsimp only [sqc] at q0 q1 q2
    have hCr := HC5.out.low hI.low
    obtain ⟨bl, off, haw, hbl0, hw0⟩ := hCr (pre.length * 3 + 0) (.int .i64 xl) (by rw [sqc_get hn1 0 (by omega)]; rfl)
    obtain ⟨bl1, off1, haw1, _, hw1⟩ := hCr (pre.length * 3 + 1) (.int .i64 xn) (by rw [sqc_get hn1 1 (by omega)]; rfl)
    rw [haw] at haw1
    cases haw1
    obtain ⟨bl2, off2, haw2, _, hw2⟩ := hCr (pre.length * 3 + 2) (.int .i64 xo) (by rw [sqc_get hn1 2 (by omega)]; rfl)
    rw [haw] at haw2
    cases haw2
    rw [haw] at hcw
    rw [Nat.add_zero] at hw0
    rw [← Nat.add_assoc] at hw1 hw2
    have HI := hid hI
    have hn2a : (pre.length : Int) < (ml.length : Int) := by omega
    clear hI hSp hn1 haw hq hL hM hCr
    have hdec : ¬ ((ml.length : Int) ≤ (pre.length : Int)) := by omega
    have hdec2 : decide (ml.length ≤ pre.length) = false := by rw [decide_eq_false_iff_not]; omega
    have hwlt : w.heap.size + 2 < w5.heap.size := HR5.out.lt
    have hne1 : ¬ w5.heap.size = w.heap.size := by omega
    have hne3 : ¬ w5.heap.size = w.heap.size + 1 := by omega
    have hmll : (ml.length : Int) ≤ 5000 := by omega
    have HR := hid (fun nq => HI.out.round (((pre.length : Int)), (⟨xl, xn, xo⟩ : Sq)) (fun _ => false) nq (.int .i64 ((pre.length : Int) + 1)) rfl)
    gi_wp2
    refine wpIn_region_round_lit (by kernel_rfl) (by kernel_rfl) (by kernel_rfl) ?_
    repeat (gi_big_quiet_step (fail))
    refine wpQuietIn_nil ?_
    intro _ hw'
    obtain ⟨nq, hw''⟩ := hw'
    subst hw''
    by_cases hmany : many ≤ (pre.length : Int) + 1
    · gi_wp2
      exact ⟨by first | exact (HR.out _).1 | (rw [hsz]; exact (HR.out _).1), ITc.exit (HR.out _).2.1 (HR.out _).2.2 (HI.out.go rfl) hmany⟩
    · gi_wp2
      exact ⟨by first | exact (HR.out _).1 | (rw [hsz]; exact (HR.out _).1), ITc.next (HR.out _).2.1 (HR.out _).2.2 (by omega)⟩
  case hrest =>
    rintro D1 xs W hDD hF hK
    have hf := hF.one rfl
    rw [enumQ_length] at hf
    have HLw := hid (HL5.out.below hF.low HL5.out.lt)
    have HMw := hid (HM5.out.below hF.low HM5.out.lt)
    have HRw := hid (HR5.out.below hF.low HR5.out.lt)
    have HBw := hid (HB5.out.trans (hF.low.mono HB5.out.size))
    have HK1 := hid hK
    have hcn := hF.n.cell (k := 0) rfl
    have hcw := HLw.out.cell (k := 0) rfl
    have hmc := HMw.out.cell (k := 0) rfl
    have hr7 := HRw.out.cell (k := 0) rfl
    have hz7 := HRw.out.frozen 0
    have hDlow : w.heap.size + 2 < D1 := Nat.lt_of_lt_of_le HR5.out.lt (by omega)
    have HDlow := hid hDlow
    clear hF hK hDD hbW hsz hDlow
    generalize hxl : (xs.length : Int) = m at *
    have hbq : (m == min (ml.length : Int) (max 1 many)) = true := by rw [hf]; simp
    clear hxl hf
    go_wp2
    have hrs := HRw.out.set 0 (.bool true)
    have hbs := HBw.out.setCell (p := ⟨w.heap.size + 2, 0, none⟩) (by simp) (.bool true)
    have hDl := HDlow.out
    have hK1 : (W.setCell ⟨w.heap.size + 2, 0, none⟩ (.bool true)).heap[D1]? = some (.deferred (some [])) := (Below.heap_setCell _ _ _ _ (by dsimp only; omega)).trans HK1.out
    clear hcn hcw hmc hr7 hz7 hbq
    generalize W.setCell ⟨w.heap.size + 2, 0, none⟩ (.bool true) = W9 at *
    refine ⟨by simp, .inl ⟨_, _, rfl, run_takeDeferred hK1, ?_⟩⟩
    have k1 : ∀ o, Blk (W9.putObj D1 o) (w.heap.size + 2) [.bool true] 4 := fun o => (World.putObj_heap_other (by omega)).trans hrs
    have q1 := fun o => (k1 o).cell (k := 0) rfl
    refine ⟨.bool true, by simp [results, Try.results18, go_sem, q1], rfl, hbs.grown (grownBy_putObj' W9 D1 _) hbs.size (fun k hk => by cases hk; omega)⟩
end Go.Proofs.Ytnmicfheekpnfaa
