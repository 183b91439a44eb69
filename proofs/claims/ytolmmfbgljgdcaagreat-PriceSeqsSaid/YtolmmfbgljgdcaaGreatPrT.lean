/-
  The walks of chapter 32's laws: num, is, few, both.
-/
import Derived.Test.YtolmmfbgljgdcaaGreatPrS
import Derived.Test.YtolmmfbgljgdcaaGreatPrH
namespace Go.Proofs.YtolmmfbgljgdcaaGreat
open Go.RowKit Go.Port

theorem prnum_any (n : Int) (w : World) : Calls Tryz.prog 21 #[.int .i64 n] w fun e w' => e = .returned (.int .i64 n) ∧ w = w' := by
  go_enter Tryz.func21, Tryz.ntmps21
  go_wp2
  go_ret
  exact ⟨rfl, rfl⟩
theorem pris_yes (n no : Int) (w : World) : Calls Tryz.prog 10 #[.int .i64 n, .int .i64 no, .int .i64 n, .int .i64 no] w fun e w' => e = .returned (.bool true) ∧ w = w' := by
  go_enter Tryz.func10, Tryz.ntmps10
  go_wp2_with fail
  refine (prnum_any no w).mono ?_
  rintro e w' ⟨rfl, rfl⟩
  go_wp2
  go_ret
  exact ⟨rfl, rfl⟩
def fewB (C : Nat → List Int) : Bool := decide ((C 0).length ≤ 300) && decide ((C 1).length ≤ 300) && decide ((C 2).length ≤ 300) && decide ((C 3).length ≤ 300)
section
variable {W W0 : World} {b B : Nat} {t : TypeId} {y0 y1 y2 y3 : Value} (u0 u1 u2 u3 : Value)
theorem blk_set4 (h : Blk W b [y0, y1, y2, y3] t) : Blk ((((W.setCell ⟨b, 0, none⟩ u0).setCell ⟨b, 1, none⟩ u1).setCell ⟨b, 2, none⟩ u2).setCell ⟨b, 3, none⟩ u3) b [u0, u1, u2, u3] t := (((h.set 0 u0).set 1 u1).set 2 u2).set 3 u3
theorem blk_other4 {q : Nat} {vs : List Value} {t' : TypeId} (h : Blk W q vs t') (hne : b ≠ q) : Blk ((((W.setCell ⟨b, 0, none⟩ u0).setCell ⟨b, 1, none⟩ u1).setCell ⟨b, 2, none⟩ u2).setCell ⟨b, 3, none⟩ u3) q vs t' := (((h.other u0 hne).other u1 hne).other u2 hne).other u3 hne
theorem below_set4 (h : Below B W0 W) (hb : B ≤ b) : Below B W0 ((((W.setCell ⟨b, 0, none⟩ u0).setCell ⟨b, 1, none⟩ u1).setCell ⟨b, 2, none⟩ u2).setCell ⟨b, 3, none⟩ u3) := (((h.setCell (p := ⟨b, 0, none⟩) hb u0).setCell (p := ⟨b, 1, none⟩) hb u1).setCell (p := ⟨b, 2, none⟩) hb u2).setCell (p := ⟨b, 3, none⟩) hb u3
theorem PrAt.set4 {M : Nat} {C : Nat → List Int} (h : PrAt W M C) (hb : Blk W b [y0, y1, y2, y3] t) (h1 : t ≠ 75) (h2 : t ≠ 97) (h3 : t ≠ 3) : PrAt ((((W.setCell ⟨b, 0, none⟩ u0).setCell ⟨b, 1, none⟩ u1).setCell ⟨b, 2, none⟩ u2).setCell ⟨b, 3, none⟩ u3) M C := by
  have b1 := hb.set 0 u0
  have b2 := b1.set 1 u1
  have b3 := b2.set 2 u2
  exact (((h.other hb h1 h2 h3 u0).other b1 h1 h2 h3 u1).other b2 h1 h2 h3 u2).other b3 h1 h2 h3 u3
end
set_option maxRecDepth 100000 in
theorem prfew_yes (A : Nat → Option Addr) (cp : Nat → Nat) (C : Nat → List Int) (w : World) (h0 : (C 0).length ≤ 300) (h1 : (C 1).length ≤ 300) (h2 : (C 2).length ≤ 300) (h3 : (C 3).length ≤ 300) :
    Calls Tryz.prog 5 #[fourV A cp C] w (RetV w (.bool true)) := by
  have HB := hid (Blk.new w [.slice (A 0) (C 0).length (cp 0), .slice (A 1) (C 1).length (cp 1), .slice (A 2) (C 2).length (cp 2), .slice (A 3) (C 3).length (cp 3)] 23)
  have HBl := hid (below_new w (.cells #[.slice (A 0) (C 0).length (cp 0), .slice (A 1) (C 1).length (cp 1), .slice (A 2) (C 2).length (cp 2), .slice (A 3) (C 3).length (cp 3)] 23))
  have c0 := HB.out.cell (k := 0) rfl
  have c1 := HB.out.cell (k := 1) rfl
  have c2 := HB.out.cell (k := 2) rfl
  have c3 := HB.out.cell (k := 3) rfl
  have d0 : decide (((C 0).length : Int) ≤ 300) = true := decide_eq_true (by omega)
  have e0 : ((C 0).length : Int) ≤ 300 := by omega
  have d1 : decide (((C 1).length : Int) ≤ 300) = true := decide_eq_true (by omega)
  have e1 : ((C 1).length : Int) ≤ 300 := by omega
  have d2 : decide (((C 2).length : Int) ≤ 300) = true := decide_eq_true (by omega)
  have e2 : ((C 2).length : Int) ≤ 300 := by omega
  have d3 : decide (((C 3).length : Int) ≤ 300) = true := decide_eq_true (by omega)
  have e3 : ((C 3).length : Int) ≤ 300 := by omega
  clear h0 h1 h2 h3
  unfold fourV
  go_enter Tryz.func5, Tryz.ntmps5
  go_wp2
  go_ret
  exact ⟨rfl, HBl.out⟩
set_option maxRecDepth 100000 in
theorem prfew_no0 (A : Nat → Option Addr) (cp : Nat → Nat) (C : Nat → List Int) (w : World)  (h0 : ¬ (C 0).length ≤ 300) :
    Calls Tryz.prog 5 #[fourV A cp C] w (RetV w (.bool false)) := by
  have HB := hid (Blk.new w [.slice (A 0) (C 0).length (cp 0), .slice (A 1) (C 1).length (cp 1), .slice (A 2) (C 2).length (cp 2), .slice (A 3) (C 3).length (cp 3)] 23)
  have HBl := hid (below_new w (.cells #[.slice (A 0) (C 0).length (cp 0), .slice (A 1) (C 1).length (cp 1), .slice (A 2) (C 2).length (cp 2), .slice (A 3) (C 3).length (cp 3)] 23))
  have c0 := HB.out.cell (k := 0) rfl
  have c1 := HB.out.cell (k := 1) rfl
  have c2 := HB.out.cell (k := 2) rfl
  have c3 := HB.out.cell (k := 3) rfl
  have d0 : decide (((C 0).length : Int) ≤ 300) = false := decide_eq_false (by omega)
  have e0 : ¬ ((C 0).length : Int) ≤ 300 := by omega
  clear h0
  unfold fourV
  go_enter Tryz.func5, Tryz.ntmps5
  go_wp2
  go_ret
  exact ⟨rfl, HBl.out⟩
set_option maxRecDepth 100000 in
theorem prfew_no1 (A : Nat → Option Addr) (cp : Nat → Nat) (C : Nat → List Int) (w : World) (h0 : (C 0).length ≤ 300) (h1 : ¬ (C 1).length ≤ 300) :
    Calls Tryz.prog 5 #[fourV A cp C] w (RetV w (.bool false)) := by
  have HB := hid (Blk.new w [.slice (A 0) (C 0).length (cp 0), .slice (A 1) (C 1).length (cp 1), .slice (A 2) (C 2).length (cp 2), .slice (A 3) (C 3).length (cp 3)] 23)
  have HBl := hid (below_new w (.cells #[.slice (A 0) (C 0).length (cp 0), .slice (A 1) (C 1).length (cp 1), .slice (A 2) (C 2).length (cp 2), .slice (A 3) (C 3).length (cp 3)] 23))
  have c0 := HB.out.cell (k := 0) rfl
  have c1 := HB.out.cell (k := 1) rfl
  have c2 := HB.out.cell (k := 2) rfl
  have c3 := HB.out.cell (k := 3) rfl
  have d0 : decide (((C 0).length : Int) ≤ 300) = true := decide_eq_true (by omega)
  have e0 : ((C 0).length : Int) ≤ 300 := by omega
  have d1 : decide (((C 1).length : Int) ≤ 300) = false := decide_eq_false (by omega)
  have e1 : ¬ ((C 1).length : Int) ≤ 300 := by omega
  clear h0 h1
  unfold fourV
  go_enter Tryz.func5, Tryz.ntmps5
  go_wp2
  go_ret
  exact ⟨rfl, HBl.out⟩
set_option maxRecDepth 100000 in
theorem prfew_no2 (A : Nat → Option Addr) (cp : Nat → Nat) (C : Nat → List Int) (w : World) (h0 : (C 0).length ≤ 300) (h1 : (C 1).length ≤ 300) (h2 : ¬ (C 2).length ≤ 300) :
    Calls Tryz.prog 5 #[fourV A cp C] w (RetV w (.bool false)) := by
  have HB := hid (Blk.new w [.slice (A 0) (C 0).length (cp 0), .slice (A 1) (C 1).length (cp 1), .slice (A 2) (C 2).length (cp 2), .slice (A 3) (C 3).length (cp 3)] 23)
  have HBl := hid (below_new w (.cells #[.slice (A 0) (C 0).length (cp 0), .slice (A 1) (C 1).length (cp 1), .slice (A 2) (C 2).length (cp 2), .slice (A 3) (C 3).length (cp 3)] 23))
  have c0 := HB.out.cell (k := 0) rfl
  have c1 := HB.out.cell (k := 1) rfl
  have c2 := HB.out.cell (k := 2) rfl
  have c3 := HB.out.cell (k := 3) rfl
  have d0 : decide (((C 0).length : Int) ≤ 300) = true := decide_eq_true (by omega)
  have e0 : ((C 0).length : Int) ≤ 300 := by omega
  have d1 : decide (((C 1).length : Int) ≤ 300) = true := decide_eq_true (by omega)
  have e1 : ((C 1).length : Int) ≤ 300 := by omega
  have d2 : decide (((C 2).length : Int) ≤ 300) = false := decide_eq_false (by omega)
  have e2 : ¬ ((C 2).length : Int) ≤ 300 := by omega
  clear h0 h1 h2
  unfold fourV
  go_enter Tryz.func5, Tryz.ntmps5
  go_wp2
  go_ret
  exact ⟨rfl, HBl.out⟩
set_option maxRecDepth 100000 in
theorem prfew_no3 (A : Nat → Option Addr) (cp : Nat → Nat) (C : Nat → List Int) (w : World) (h0 : (C 0).length ≤ 300) (h1 : (C 1).length ≤ 300) (h2 : (C 2).length ≤ 300) (h3 : ¬ (C 3).length ≤ 300) :
    Calls Tryz.prog 5 #[fourV A cp C] w (RetV w (.bool false)) := by
  have HB := hid (Blk.new w [.slice (A 0) (C 0).length (cp 0), .slice (A 1) (C 1).length (cp 1), .slice (A 2) (C 2).length (cp 2), .slice (A 3) (C 3).length (cp 3)] 23)
  have HBl := hid (below_new w (.cells #[.slice (A 0) (C 0).length (cp 0), .slice (A 1) (C 1).length (cp 1), .slice (A 2) (C 2).length (cp 2), .slice (A 3) (C 3).length (cp 3)] 23))
  have c0 := HB.out.cell (k := 0) rfl
  have c1 := HB.out.cell (k := 1) rfl
  have c2 := HB.out.cell (k := 2) rfl
  have c3 := HB.out.cell (k := 3) rfl
  have d0 : decide (((C 0).length : Int) ≤ 300) = true := decide_eq_true (by omega)
  have e0 : ((C 0).length : Int) ≤ 300 := by omega
  have d1 : decide (((C 1).length : Int) ≤ 300) = true := decide_eq_true (by omega)
  have e1 : ((C 1).length : Int) ≤ 300 := by omega
  have d2 : decide (((C 2).length : Int) ≤ 300) = true := decide_eq_true (by omega)
  have e2 : ((C 2).length : Int) ≤ 300 := by omega
  have d3 : decide (((C 3).length : Int) ≤ 300) = false := decide_eq_false (by omega)
  have e3 : ¬ ((C 3).length : Int) ≤ 300 := by omega
  clear h0 h1 h2 h3
  unfold fourV
  go_enter Tryz.func5, Tryz.ntmps5
  go_wp2
  go_ret
  exact ⟨rfl, HBl.out⟩
theorem prfew_any (A : Nat → Option Addr) (cp : Nat → Nat) (C : Nat → List Int) (w : World) : Calls Tryz.prog 5 #[fourV A cp C] w (RetV w (.bool (fewB C))) := by
  by_cases h0 : (C 0).length ≤ 300
  · by_cases h1 : (C 1).length ≤ 300
    · by_cases h2 : (C 2).length ≤ 300
      · by_cases h3 : (C 3).length ≤ 300
        · have : fewB C = true := by unfold fewB; simp [h0, h1, h2, h3]
          rw [this]; exact prfew_yes A cp C w h0 h1 h2 h3
        · have : fewB C = false := by unfold fewB; simp [h3]
          rw [this]; exact prfew_no3 A cp C w h0 h1 h2 h3
      · have : fewB C = false := by unfold fewB; simp [h2]
        rw [this]; exact prfew_no2 A cp C w h0 h1 h2
    · have : fewB C = false := by unfold fewB; simp [h1]
      rw [this]; exact prfew_no1 A cp C w h0 h1
  · have : fewB C = false := by unfold fewB; simp [h0]
    rw [this]; exact prfew_no0 A cp C w h0
set_option maxRecDepth 100000 in
set_option maxHeartbeats 4000000 in
theorem prboth_ok (A : Nat → Option Addr) (cp : Nat → Nat) (C : Nat → List Int) (w : World) (h : FourAt w A cp C) (hok : ∀ k, k < 4 → HistOk k (C k)) :
    Calls Tryz.prog 7 #[fourV A cp C] w (fun e w' => ∃ M, e = .returned (.tuple #[.pointer (some ⟨M, 0, none⟩), fourV A cp C, .bool true, .bool true]) ∧ PrAt w' M C ∧ Below w.heap.size w w') := by
  have HB0 := hid (show Blk ((w.alloc (.cells #[.slice (A 0) (C 0).length (cp 0), .slice (A 1) (C 1).length (cp 1), .slice (A 2) (C 2).length (cp 2), .slice (A 3) (C 3).length (cp 3)] 23)).alloc (.cells #[.slice none 0 0, .slice none 0 0, .slice none 0 0, .slice none 0 0] 30)) w.heap.size [.slice (A 0) (C 0).length (cp 0), .slice (A 1) (C 1).length (cp 1), .slice (A 2) (C 2).length (cp 2), .slice (A 3) (C 3).length (cp 3)] 23 from (Blk.newAt rfl).alloc _)
  have HB1 := hid (show Blk ((w.alloc (.cells #[.slice (A 0) (C 0).length (cp 0), .slice (A 1) (C 1).length (cp 1), .slice (A 2) (C 2).length (cp 2), .slice (A 3) (C 3).length (cp 3)] 23)).alloc (.cells #[.slice none 0 0, .slice none 0 0, .slice none 0 0, .slice none 0 0] 30)) (w.heap.size + 1) [.slice none 0 0, .slice none 0 0, .slice none 0 0, .slice none 0 0] 30 from Blk.newAt (by simp))
  have HBl := hid (show Below w.heap.size w ((w.alloc (.cells #[.slice (A 0) (C 0).length (cp 0), .slice (A 1) (C 1).length (cp 1), .slice (A 2) (C 2).length (cp 2), .slice (A 3) (C 3).length (cp 3)] 23)).alloc (.cells #[.slice none 0 0, .slice none 0 0, .slice none 0 0, .slice none 0 0] 30)) from (below_new w _).alloc (by simp) _)
  have HNw := hid (prnew_ok A cp C _ (h.low HBl.out) hok)
  have HRn := hid (fun W hb => rnew_ok A cp C W ((h.low HBl.out).low hb) hok)
  unfold fourV at HRn
  unfold fourV
  clear h hok
  have c0 := HB0.out.cell (k := 0) rfl
  have c1 := HB0.out.cell (k := 1) rfl
  have c2 := HB0.out.cell (k := 2) rfl
  have c3 := HB0.out.cell (k := 3) rfl
  go_enter Tryz.func7, Tryz.ntmps7
  go_wp2_with fail
  clear c0 c1 c2 c3
  generalize (w.alloc (.cells #[.slice (A 0) (C 0).length (cp 0), .slice (A 1) (C 1).length (cp 1), .slice (A 2) (C 2).length (cp 2), .slice (A 3) (C 3).length (cp 3)] 23)).alloc (.cells #[.slice none 0 0, .slice none 0 0, .slice none 0 0, .slice none 0 0] 30) = w1 at *
  refine HNw.out.mono ?_
  rintro e w2 ⟨M, rfl, hpr, hM, hb⟩
  have HB2 := hid hb
  have HX2 := hid (HB0.out.below hb HB0.out.lt)
  have HP2 := hid (And.intro hpr hM)
  clear hpr hM hb
  have c0 := HX2.out.cell (k := 0) rfl
  have c1 := HX2.out.cell (k := 1) rfl
  have c2 := HX2.out.cell (k := 2) rfl
  have c3 := HX2.out.cell (k := 3) rfl
  go_wp2_with fail
  refine (HRn.out _ HB2.out).mono ?_
  rintro e w3 ⟨rfl, hb⟩
  have HB3 := hid (HB2.out.trans (hb.mono HB2.out.size))
  have HP3 := hid (HP2.out.1.low hb)
  clear hb c0 c1 c2 c3
  go_wp2_with fail
  have HQ4 := hid (Blk.new w3 [.slice (A 0) (C 0).length (cp 0), .slice (A 1) (C 1).length (cp 1), .slice (A 2) (C 2).length (cp 2), .slice (A 3) (C 3).length (cp 3)] 30)
  have HB4 := hid (HB3.out.trans ((below_new w3 (.cells #[.slice (A 0) (C 0).length (cp 0), .slice (A 1) (C 1).length (cp 1), .slice (A 2) (C 2).length (cp 2), .slice (A 3) (C 3).length (cp 3)] 30)).mono HB3.out.size))
  have HP4 := hid (HP3.out.low (below_new w3 (.cells #[.slice (A 0) (C 0).length (cp 0), .slice (A 1) (C 1).length (cp 1), .slice (A 2) (C 2).length (cp 2), .slice (A 3) (C 3).length (cp 3)] 30)))
  obtain ⟨q8, hq8⟩ : ∃ q, q = w3.heap.size := ⟨_, rfl⟩
  rw [← hq8] at HQ4 ⊢
  have HQl := hid (show w1.heap.size ≤ q8 from by rw [hq8]; exact HB3.out.size)
  clear hq8
  generalize w3.alloc (.cells #[.slice (A 0) (C 0).length (cp 0), .slice (A 1) (C 1).length (cp 1), .slice (A 2) (C 2).length (cp 2), .slice (A 3) (C 3).length (cp 3)] 30) = w4 at *
  refine wp_region_noPanic ?_
  refine wp_region_held_drew (S := fun W' => Blk W' q8 [.slice (A 0) (C 0).length (cp 0), .slice (A 1) (C 1).length (cp 1), .slice (A 2) (C 2).length (cp 2), .slice (A 3) (C 3).length (cp 3)] 30) (by kernel_rfl) HQ4.out (fun hHeld => ?_)
  refine wpAnyH_take (i := 0) (v := .pointer (some ⟨M, 0, none⟩)) (by simp only [List.getElem?_toArray, List.getElem?_cons_zero]; rfl) (by kernel_rfl) (by kernel_rfl) (by kernel_rfl) (fun _ _ _ h => h) (Or.inl ⟨by rfl, fun W hSw => ?_⟩) (by assumption) ?_
  · clear hSw
    go_simp
  simp only [Act.put, List.setIfInBounds_toArray, List.set_cons_zero, List.set_cons_succ]
  refine wpAnyH_take (i := 1) (v := .agg #[.slice (A 0) (C 0).length (cp 0), .slice (A 1) (C 1).length (cp 1), .slice (A 2) (C 2).length (cp 2), .slice (A 3) (C 3).length (cp 3)]) (by simp only [List.getElem?_toArray, List.getElem?_cons_zero, List.getElem?_cons_succ]; rfl) (by kernel_rfl) (by kernel_rfl) (by kernel_rfl) (fun _ _ _ h => h) (Or.inl ⟨by rfl, fun W hSw => ?_⟩) (by assumption) ?_
  · have hcw0 := hSw.cell (k := 0) rfl
    have hcw1 := hSw.cell (k := 1) rfl
    have hcw2 := hSw.cell (k := 2) rfl
    have hcw3 := hSw.cell (k := 3) rfl
    go_simp
  simp only [Act.put, List.setIfInBounds_toArray, List.set_cons_zero, List.set_cons_succ]
  refine wpAnyH_take (i := 2) (v := .int .i64 0) (by simp only [List.getElem?_toArray, List.getElem?_cons_zero, List.getElem?_cons_succ]; rfl) (by kernel_rfl) (by kernel_rfl) (by kernel_rfl) (fun _ _ _ h => h) (Or.inl ⟨by rfl, fun W hSw => ?_⟩) (by assumption) ?_
  · clear hSw
    go_simp
  simp only [Act.put, List.setIfInBounds_toArray, List.set_cons_zero, List.set_cons_succ]
  refine wpAnyH_take (i := 3) (v := .bool true) (by simp only [List.getElem?_toArray, List.getElem?_cons_zero, List.getElem?_cons_succ]; rfl) (by kernel_rfl) (by kernel_rfl) (by kernel_rfl) (fun _ _ _ h => h) (Or.inl ⟨by rfl, fun W hSw => ?_⟩) (by assumption) ?_
  · clear hSw
    go_simp
  simp only [Act.put, List.setIfInBounds_toArray, List.set_cons_zero, List.set_cons_succ]
  refine wpAnyH_take (i := 4) (v := .int .i64 0) (by simp only [List.getElem?_toArray, List.getElem?_cons_zero, List.getElem?_cons_succ]; rfl) (by kernel_rfl) (by kernel_rfl) (by kernel_rfl) (fun _ _ _ h => h) (Or.inl ⟨by rfl, fun W hSw => ?_⟩) (by assumption) ?_
  · clear hSw
    go_simp
  simp only [Act.put, List.setIfInBounds_toArray, List.set_cons_zero, List.set_cons_succ]
  refine wpAnyH_take (i := 6) (v := .int .i64 0) (by simp only [List.getElem?_toArray, List.getElem?_cons_zero, List.getElem?_cons_succ]; rfl) (by kernel_rfl) (by kernel_rfl) (by kernel_rfl) (fun _ _ _ h => h) (Or.inl ⟨by rfl, fun W hSw => ?_⟩) (by assumption) ?_
  · clear hSw
    go_simp
  simp only [Act.put, List.setIfInBounds_toArray, List.set_cons_zero, List.set_cons_succ]
  have HBd := hid (show Below w4.heap.size w4 w4.drew from (Below.refl _ _).drew)
  have HD := hid ((HB1.out.below HB4.out HB1.out.lt).below HBd.out (Nat.lt_of_lt_of_le HB1.out.lt HB4.out.size))
  have HBW := hid (HBl.out.trans ((HB4.out.trans (HBd.out.mono HB4.out.size)).mono HBl.out.size))
  have HQ5 := hid (HQ4.out.below HBd.out HQ4.out.lt)
  have HP5 := hid (HP4.out.low HBd.out)
  generalize w4.drew = w5 at *
  have d0 := HD.out.cell (k := 0) rfl
  have d1 := HD.out.cell (k := 1) rfl
  have d2 := HD.out.cell (k := 2) rfl
  have d3 := HD.out.cell (k := 3) rfl
  have z0 := HD.out.frozen 0
  have z1 := HD.out.frozen 1
  have z2 := HD.out.frozen 2
  have z3 := HD.out.frozen 3
  have HF := hid (blk_set4 (.slice (A 0) (C 0).length (cp 0)) (.slice (A 1) (C 1).length (cp 1)) (.slice (A 2) (C 2).length (cp 2)) (.slice (A 3) (C 3).length (cp 3)) HD.out)
  have HFb := hid (below_set4 (.slice (A 0) (C 0).length (cp 0)) (.slice (A 1) (C 1).length (cp 1)) (.slice (A 2) (C 2).length (cp 2)) (.slice (A 3) (C 3).length (cp 3)) HBW.out (Nat.le_succ w.heap.size))
  have HFq := hid (blk_other4 (.slice (A 0) (C 0).length (cp 0)) (.slice (A 1) (C 1).length (cp 1)) (.slice (A 2) (C 2).length (cp 2)) (.slice (A 3) (C 3).length (cp 3)) HQ5.out (show w.heap.size + 1 ≠ q8 from by have h1 := HQl.out; have h2 := HB1.out.lt; omega))
  have HFp := hid (HP5.out.set4 (.slice (A 0) (C 0).length (cp 0)) (.slice (A 1) (C 1).length (cp 1)) (.slice (A 2) (C 2).length (cp 2)) (.slice (A 3) (C 3).length (cp 3)) HD.out (by decide) (by decide) (by decide))
  refine wpAnyH_ready (rs := [5]) (by kernel_rfl) (by simp) ?_
  refine AllReadyH.cons (by simp only [List.getElem?_toArray, List.getElem?_cons_zero, List.getElem?_cons_succ]; rfl) (fun K hK => ?_) AllReadyH.nil
  rw [if_pos (by rfl)]
  go_simp
  go_at_call 21
  refine (prnum_any _ _).mono ?_
  rintro e w' ⟨rfl, rfl⟩
  dsimp only
  refine hK.out _ _ HQ5.out (fun _ => ?_)
  clear hK K
  refine wpAnyH_take (i := 7) (v := .bool true) (by simp only [List.getElem?_toArray, List.getElem?_cons_zero, List.getElem?_cons_succ]; rfl) (by kernel_rfl) (by kernel_rfl) (by kernel_rfl) (fun _ _ _ h => h) (Or.inl ⟨by rfl, fun W hSw => ?_⟩) (by assumption) ?_
  · clear hSw
    go_simp
  simp only [Act.put, List.setIfInBounds_toArray, List.set_cons_zero, List.set_cons_succ]
  refine wpAnyH_take (i := 8) (v := .bool true) (by simp only [List.getElem?_toArray, List.getElem?_cons_zero, List.getElem?_cons_succ]; rfl) (by kernel_rfl) (by kernel_rfl) (by kernel_rfl) (fun _ _ _ h => h) (Or.inl ⟨by rfl, fun W hSw => ?_⟩) (by assumption) ?_
  · clear hSw
    go_simp
  simp only [Act.put, List.setIfInBounds_toArray, List.set_cons_zero, List.set_cons_succ]
  refine wpAnyH_take (i := 15) (v := .pointer (some ⟨M, 0, none⟩)) (by simp only [List.getElem?_toArray, List.getElem?_cons_zero, List.getElem?_cons_succ]; rfl) (by kernel_rfl) (by kernel_rfl) (by kernel_rfl) (fun _ _ _ h => h) (Or.inl ⟨by rfl, fun W hSw => ?_⟩) (by assumption) ?_
  · clear hSw
    go_simp
  simp only [Act.put, List.setIfInBounds_toArray, List.set_cons_zero, List.set_cons_succ]
  refine wpAnyH_take (i := 9) (v := .pointer (some ⟨M, 0, none⟩)) (by simp only [List.getElem?_toArray, List.getElem?_cons_zero, List.getElem?_cons_succ]; rfl) (by kernel_rfl) (by kernel_rfl) (by kernel_rfl) (fun _ _ _ h => h) (Or.inl ⟨by rfl, fun W hSw => ?_⟩) (by assumption) ?_
  · clear hSw
    go_simp
  simp only [Act.put, List.setIfInBounds_toArray, List.set_cons_zero, List.set_cons_succ]
  refine wpAnyH_take (i := 10) (v := .bool true) (by simp only [List.getElem?_toArray, List.getElem?_cons_zero, List.getElem?_cons_succ]; rfl) (by kernel_rfl) (by kernel_rfl) (by kernel_rfl) (fun _ _ _ h => h) (Or.inl ⟨by rfl, fun W hSw => ?_⟩) (by assumption) ?_
  · clear hSw
    go_simp
  simp only [Act.put, List.setIfInBounds_toArray, List.set_cons_zero, List.set_cons_succ]
  refine wpAnyH_take (i := 11) (v := .int .i64 0) (by simp only [List.getElem?_toArray, List.getElem?_cons_zero, List.getElem?_cons_succ]; rfl) (by kernel_rfl) (by kernel_rfl) (by kernel_rfl) (fun _ _ _ h => h) (Or.inl ⟨by rfl, fun W hSw => ?_⟩) (by assumption) ?_
  · clear hSw
    go_simp
  simp only [Act.put, List.setIfInBounds_toArray, List.set_cons_zero, List.set_cons_succ]
  refine wpAnyH_take (i := 12) (v := .bool true) (by simp only [List.getElem?_toArray, List.getElem?_cons_zero, List.getElem?_cons_succ]; rfl) (by kernel_rfl) (by kernel_rfl) (by kernel_rfl) (fun _ _ _ h => h) (Or.inl ⟨by rfl, fun W hSw => ?_⟩) (by assumption) ?_
  · clear hSw
    go_simp
  simp only [Act.put, List.setIfInBounds_toArray, List.set_cons_zero, List.set_cons_succ]
  refine wpAnyH_take (i := 13) (v := .bool true) (by simp only [List.getElem?_toArray, List.getElem?_cons_zero, List.getElem?_cons_succ]; rfl) (by kernel_rfl) (by kernel_rfl) (by kernel_rfl) (fun _ _ _ h => h) (Or.inl ⟨by rfl, fun W hSw => ?_⟩) (by assumption) ?_
  · clear hSw
    go_simp
  simp only [Act.put, List.setIfInBounds_toArray, List.set_cons_zero, List.set_cons_succ]
  refine wpAnyH_take (i := 14) (v := .bool true) (by simp only [List.getElem?_toArray, List.getElem?_cons_zero, List.getElem?_cons_succ]; rfl) (by kernel_rfl) (by kernel_rfl) (by kernel_rfl) (fun _ _ _ h => h) (Or.inl ⟨by rfl, fun W hSw => ?_⟩) (by assumption) ?_
  · clear hSw
    go_simp
  simp only [Act.put, List.setIfInBounds_toArray, List.set_cons_zero, List.set_cons_succ]
  refine wpAnyH_ready (rs := [16]) (by kernel_rfl) (by simp) ?_
  refine AllReadyH.cons (by simp only [List.getElem?_toArray, List.getElem?_cons_zero, List.getElem?_cons_succ]; rfl) (fun K hK => ?_) AllReadyH.nil
  rw [if_pos (by rfl)]
  go_simp
  refine hK.out _ _ HFq.out (fun _ => ?_)
  clear hK K
  clear d0 d1 d2 d3 z0 z1 z2 z3
  generalize ((((w5.setCell ⟨w.heap.size + 1, 0, none⟩ (.slice (A 0) (C 0).length (cp 0))).setCell ⟨w.heap.size + 1, 1, none⟩ (.slice (A 1) (C 1).length (cp 1))).setCell ⟨w.heap.size + 1, 2, none⟩ (.slice (A 2) (C 2).length (cp 2))).setCell ⟨w.heap.size + 1, 3, none⟩ (.slice (A 3) (C 3).length (cp 3))) = w9 at *
  have q0 := HF.out.cell (k := 0) rfl
  have q1 := HF.out.cell (k := 1) rfl
  have q2 := HF.out.cell (k := 2) rfl
  have q3 := HF.out.cell (k := 3) rfl
  refine wpAnyH_take (i := 17) (v := .bool true) (by simp only [List.getElem?_toArray, List.getElem?_cons_zero, List.getElem?_cons_succ]; rfl) (by kernel_rfl) (by kernel_rfl) (by kernel_rfl) (fun _ _ _ h => h) (Or.inl ⟨by rfl, fun W hSw => ?_⟩) (by assumption) ?_
  · clear hSw
    go_simp
  simp only [Act.put, List.setIfInBounds_toArray, List.set_cons_zero, List.set_cons_succ]
  refine wpAnyH_take (i := 18) (v := .bool true) (by simp only [List.getElem?_toArray, List.getElem?_cons_zero, List.getElem?_cons_succ]; rfl) (by kernel_rfl) (by kernel_rfl) (by kernel_rfl) (fun _ _ _ h => h) (Or.inl ⟨by rfl, fun W hSw => ?_⟩) (by assumption) ?_
  · clear hSw
    go_simp
  simp only [Act.put, List.setIfInBounds_toArray, List.set_cons_zero, List.set_cons_succ]
  refine wpAnyH_done (by kernel_rfl) ?_ _
  refine NoPanic.normal ?_
  go_wp2_with fail
  refine bodyPost_ret (v := .tuple #[.pointer (some ⟨M, 0, none⟩), .agg #[.slice (A 0) (C 0).length (cp 0), .slice (A 1) (C 1).length (cp 1), .slice (A 2) (C 2).length (cp 2), .slice (A 3) (C 3).length (cp 3)], .bool true, .bool true]) (by simp [results, Tryz.results7, go_sem, q0, q1, q2, q3]) rfl ?_
  exact ⟨M, rfl, HFp.out, HFb.out⟩
set_option maxRecDepth 100000 in
set_option maxHeartbeats 4000000 in
theorem prboth_bad (A : Nat → Option Addr) (cp : Nat → Nat) (C : Nat → List Int) (w : World) (h : FourAt w A cp C) (hok : ¬ ∀ k, k < 4 → HistOk k (C k)) :
    Calls Tryz.prog 7 #[fourV A cp C] w (RetV w (.tuple #[.pointer none, .agg #[.slice none 0 0, .slice none 0 0, .slice none 0 0, .slice none 0 0], .bool false, .bool true])) := by
  have HB0 := hid (show Blk ((w.alloc (.cells #[.slice (A 0) (C 0).length (cp 0), .slice (A 1) (C 1).length (cp 1), .slice (A 2) (C 2).length (cp 2), .slice (A 3) (C 3).length (cp 3)] 23)).alloc (.cells #[.slice none 0 0, .slice none 0 0, .slice none 0 0, .slice none 0 0] 30)) w.heap.size [.slice (A 0) (C 0).length (cp 0), .slice (A 1) (C 1).length (cp 1), .slice (A 2) (C 2).length (cp 2), .slice (A 3) (C 3).length (cp 3)] 23 from (Blk.newAt rfl).alloc _)
  have HB1 := hid (show Blk ((w.alloc (.cells #[.slice (A 0) (C 0).length (cp 0), .slice (A 1) (C 1).length (cp 1), .slice (A 2) (C 2).length (cp 2), .slice (A 3) (C 3).length (cp 3)] 23)).alloc (.cells #[.slice none 0 0, .slice none 0 0, .slice none 0 0, .slice none 0 0] 30)) (w.heap.size + 1) [.slice none 0 0, .slice none 0 0, .slice none 0 0, .slice none 0 0] 30 from Blk.newAt (by simp))
  have HBl := hid (show Below w.heap.size w ((w.alloc (.cells #[.slice (A 0) (C 0).length (cp 0), .slice (A 1) (C 1).length (cp 1), .slice (A 2) (C 2).length (cp 2), .slice (A 3) (C 3).length (cp 3)] 23)).alloc (.cells #[.slice none 0 0, .slice none 0 0, .slice none 0 0, .slice none 0 0] 30)) from (below_new w _).alloc (by simp) _)
  have HNw := hid (prnew_bad A cp C _ (h.low HBl.out) hok)
  have HRn := hid (fun W hb => rnew_bad A cp C W ((h.low HBl.out).low hb) hok)
  unfold fourV at HRn
  unfold fourV
  clear h hok
  have c0 := HB0.out.cell (k := 0) rfl
  have c1 := HB0.out.cell (k := 1) rfl
  have c2 := HB0.out.cell (k := 2) rfl
  have c3 := HB0.out.cell (k := 3) rfl
  go_enter Tryz.func7, Tryz.ntmps7
  go_wp2_with fail
  clear c0 c1 c2 c3
  generalize (w.alloc (.cells #[.slice (A 0) (C 0).length (cp 0), .slice (A 1) (C 1).length (cp 1), .slice (A 2) (C 2).length (cp 2), .slice (A 3) (C 3).length (cp 3)] 23)).alloc (.cells #[.slice none 0 0, .slice none 0 0, .slice none 0 0, .slice none 0 0] 30) = w1 at *
  refine HNw.out.mono ?_
  rintro e w2 ⟨rfl, hb⟩
  have HB2 := hid hb
  have HX2 := hid (HB0.out.below hb HB0.out.lt)
  skip
  clear hb
  have c0 := HX2.out.cell (k := 0) rfl
  have c1 := HX2.out.cell (k := 1) rfl
  have c2 := HX2.out.cell (k := 2) rfl
  have c3 := HX2.out.cell (k := 3) rfl
  go_wp2_with fail
  refine (HRn.out _ HB2.out).mono ?_
  rintro e w3 ⟨rfl, hb⟩
  have HB3 := hid (HB2.out.trans (hb.mono HB2.out.size))
  skip
  clear hb c0 c1 c2 c3
  go_wp2_with fail
  have HQ4 := hid (Blk.new w3 [.slice none 0 0, .slice none 0 0, .slice none 0 0, .slice none 0 0] 30)
  have HB4 := hid (HB3.out.trans ((below_new w3 (.cells #[.slice none 0 0, .slice none 0 0, .slice none 0 0, .slice none 0 0] 30)).mono HB3.out.size))
  skip
  obtain ⟨q8, hq8⟩ : ∃ q, q = w3.heap.size := ⟨_, rfl⟩
  rw [← hq8] at HQ4 ⊢
  have HQl := hid (show w1.heap.size ≤ q8 from by rw [hq8]; exact HB3.out.size)
  clear hq8
  generalize w3.alloc (.cells #[.slice none 0 0, .slice none 0 0, .slice none 0 0, .slice none 0 0] 30) = w4 at *
  refine wp_region_noPanic ?_
  refine wp_region_held_drew (S := fun W' => Blk W' q8 [.slice none 0 0, .slice none 0 0, .slice none 0 0, .slice none 0 0] 30) (by kernel_rfl) HQ4.out (fun hHeld => ?_)
  refine wpAnyH_take (i := 0) (v := .pointer none) (by simp only [List.getElem?_toArray, List.getElem?_cons_zero]; rfl) (by kernel_rfl) (by kernel_rfl) (by kernel_rfl) (fun _ _ _ h => h) (Or.inl ⟨by rfl, fun W hSw => ?_⟩) (by assumption) ?_
  · clear hSw
    go_simp
  simp only [Act.put, List.setIfInBounds_toArray, List.set_cons_zero, List.set_cons_succ]
  refine wpAnyH_take (i := 1) (v := .agg #[.slice none 0 0, .slice none 0 0, .slice none 0 0, .slice none 0 0]) (by simp only [List.getElem?_toArray, List.getElem?_cons_zero, List.getElem?_cons_succ]; rfl) (by kernel_rfl) (by kernel_rfl) (by kernel_rfl) (fun _ _ _ h => h) (Or.inl ⟨by rfl, fun W hSw => ?_⟩) (by assumption) ?_
  · have hcw0 := hSw.cell (k := 0) rfl
    have hcw1 := hSw.cell (k := 1) rfl
    have hcw2 := hSw.cell (k := 2) rfl
    have hcw3 := hSw.cell (k := 3) rfl
    go_simp
  simp only [Act.put, List.setIfInBounds_toArray, List.set_cons_zero, List.set_cons_succ]
  refine wpAnyH_take (i := 2) (v := .int .i64 2) (by simp only [List.getElem?_toArray, List.getElem?_cons_zero, List.getElem?_cons_succ]; rfl) (by kernel_rfl) (by kernel_rfl) (by kernel_rfl) (fun _ _ _ h => h) (Or.inl ⟨by rfl, fun W hSw => ?_⟩) (by assumption) ?_
  · clear hSw
    go_simp
  simp only [Act.put, List.setIfInBounds_toArray, List.set_cons_zero, List.set_cons_succ]
  refine wpAnyH_take (i := 3) (v := .bool false) (by simp only [List.getElem?_toArray, List.getElem?_cons_zero, List.getElem?_cons_succ]; rfl) (by kernel_rfl) (by kernel_rfl) (by kernel_rfl) (fun _ _ _ h => h) (Or.inl ⟨by rfl, fun W hSw => ?_⟩) (by assumption) ?_
  · clear hSw
    go_simp
  simp only [Act.put, List.setIfInBounds_toArray, List.set_cons_zero, List.set_cons_succ]
  refine wpAnyH_take (i := 4) (v := .int .i64 2) (by simp only [List.getElem?_toArray, List.getElem?_cons_zero, List.getElem?_cons_succ]; rfl) (by kernel_rfl) (by kernel_rfl) (by kernel_rfl) (fun _ _ _ h => h) (Or.inl ⟨by rfl, fun W hSw => ?_⟩) (by assumption) ?_
  · clear hSw
    go_simp
  simp only [Act.put, List.setIfInBounds_toArray, List.set_cons_zero, List.set_cons_succ]
  refine wpAnyH_take (i := 6) (v := .int .i64 2) (by simp only [List.getElem?_toArray, List.getElem?_cons_zero, List.getElem?_cons_succ]; rfl) (by kernel_rfl) (by kernel_rfl) (by kernel_rfl) (fun _ _ _ h => h) (Or.inl ⟨by rfl, fun W hSw => ?_⟩) (by assumption) ?_
  · clear hSw
    go_simp
  simp only [Act.put, List.setIfInBounds_toArray, List.set_cons_zero, List.set_cons_succ]
  have HBd := hid (show Below w4.heap.size w4 w4.drew from (Below.refl _ _).drew)
  have HD := hid ((HB1.out.below HB4.out HB1.out.lt).below HBd.out (Nat.lt_of_lt_of_le HB1.out.lt HB4.out.size))
  have HBW := hid (HBl.out.trans ((HB4.out.trans (HBd.out.mono HB4.out.size)).mono HBl.out.size))
  have HQ5 := hid (HQ4.out.below HBd.out HQ4.out.lt)
  skip
  generalize w4.drew = w5 at *
  have d0 := HD.out.cell (k := 0) rfl
  have d1 := HD.out.cell (k := 1) rfl
  have d2 := HD.out.cell (k := 2) rfl
  have d3 := HD.out.cell (k := 3) rfl
  have z0 := HD.out.frozen 0
  have z1 := HD.out.frozen 1
  have z2 := HD.out.frozen 2
  have z3 := HD.out.frozen 3
  have HF := hid (blk_set4 (.slice none 0 0) (.slice none 0 0) (.slice none 0 0) (.slice none 0 0) HD.out)
  have HFb := hid (below_set4 (.slice none 0 0) (.slice none 0 0) (.slice none 0 0) (.slice none 0 0) HBW.out (Nat.le_succ w.heap.size))
  have HFq := hid (blk_other4 (.slice none 0 0) (.slice none 0 0) (.slice none 0 0) (.slice none 0 0) HQ5.out (show w.heap.size + 1 ≠ q8 from by have h1 := HQl.out; have h2 := HB1.out.lt; omega))
  refine wpAnyH_ready (rs := [5]) (by kernel_rfl) (by simp) ?_
  refine AllReadyH.cons (by simp only [List.getElem?_toArray, List.getElem?_cons_zero, List.getElem?_cons_succ]; rfl) (fun K hK => ?_) AllReadyH.nil
  rw [if_pos (by rfl)]
  go_simp
  go_at_call 21
  refine (prnum_any _ _).mono ?_
  rintro e w' ⟨rfl, rfl⟩
  dsimp only
  refine hK.out _ _ HQ5.out (fun _ => ?_)
  clear hK K
  refine wpAnyH_take (i := 7) (v := .bool true) (by simp only [List.getElem?_toArray, List.getElem?_cons_zero, List.getElem?_cons_succ]; rfl) (by kernel_rfl) (by kernel_rfl) (by kernel_rfl) (fun _ _ _ h => h) (Or.inl ⟨by rfl, fun W hSw => ?_⟩) (by assumption) ?_
  · clear hSw
    go_simp
  simp only [Act.put, List.setIfInBounds_toArray, List.set_cons_zero, List.set_cons_succ]
  refine wpAnyH_take (i := 8) (v := .bool true) (by simp only [List.getElem?_toArray, List.getElem?_cons_zero, List.getElem?_cons_succ]; rfl) (by kernel_rfl) (by kernel_rfl) (by kernel_rfl) (fun _ _ _ h => h) (Or.inl ⟨by rfl, fun W hSw => ?_⟩) (by assumption) ?_
  · clear hSw
    go_simp
  simp only [Act.put, List.setIfInBounds_toArray, List.set_cons_zero, List.set_cons_succ]
  refine wpAnyH_take (i := 15) (v := .pointer none) (by simp only [List.getElem?_toArray, List.getElem?_cons_zero, List.getElem?_cons_succ]; rfl) (by kernel_rfl) (by kernel_rfl) (by kernel_rfl) (fun _ _ _ h => h) (Or.inl ⟨by rfl, fun W hSw => ?_⟩) (by assumption) ?_
  · clear hSw
    go_simp
  simp only [Act.put, List.setIfInBounds_toArray, List.set_cons_zero, List.set_cons_succ]
  refine wpAnyH_take (i := 9) (v := .pointer none) (by simp only [List.getElem?_toArray, List.getElem?_cons_zero, List.getElem?_cons_succ]; rfl) (by kernel_rfl) (by kernel_rfl) (by kernel_rfl) (fun _ _ _ h => h) (Or.inl ⟨by rfl, fun W hSw => ?_⟩) (by assumption) ?_
  · clear hSw
    go_simp
  simp only [Act.put, List.setIfInBounds_toArray, List.set_cons_zero, List.set_cons_succ]
  refine wpAnyH_take (i := 10) (v := .bool false) (by simp only [List.getElem?_toArray, List.getElem?_cons_zero, List.getElem?_cons_succ]; rfl) (by kernel_rfl) (by kernel_rfl) (by kernel_rfl) (fun _ _ _ h => h) (Or.inl ⟨by rfl, fun W hSw => ?_⟩) (by assumption) ?_
  · clear hSw
    go_simp
  simp only [Act.put, List.setIfInBounds_toArray, List.set_cons_zero, List.set_cons_succ]
  refine wpAnyH_take (i := 11) (v := .int .i64 2) (by simp only [List.getElem?_toArray, List.getElem?_cons_zero, List.getElem?_cons_succ]; rfl) (by kernel_rfl) (by kernel_rfl) (by kernel_rfl) (fun _ _ _ h => h) (Or.inl ⟨by rfl, fun W hSw => ?_⟩) (by assumption) ?_
  · clear hSw
    go_simp
  simp only [Act.put, List.setIfInBounds_toArray, List.set_cons_zero, List.set_cons_succ]
  refine wpAnyH_take (i := 12) (v := .bool false) (by simp only [List.getElem?_toArray, List.getElem?_cons_zero, List.getElem?_cons_succ]; rfl) (by kernel_rfl) (by kernel_rfl) (by kernel_rfl) (fun _ _ _ h => h) (Or.inl ⟨by rfl, fun W hSw => ?_⟩) (by assumption) ?_
  · clear hSw
    go_simp
  simp only [Act.put, List.setIfInBounds_toArray, List.set_cons_zero, List.set_cons_succ]
  refine wpAnyH_take (i := 13) (v := .bool true) (by simp only [List.getElem?_toArray, List.getElem?_cons_zero, List.getElem?_cons_succ]; rfl) (by kernel_rfl) (by kernel_rfl) (by kernel_rfl) (fun _ _ _ h => h) (Or.inl ⟨by rfl, fun W hSw => ?_⟩) (by assumption) ?_
  · clear hSw
    go_simp
  simp only [Act.put, List.setIfInBounds_toArray, List.set_cons_zero, List.set_cons_succ]
  refine wpAnyH_take (i := 14) (v := .bool true) (by simp only [List.getElem?_toArray, List.getElem?_cons_zero, List.getElem?_cons_succ]; rfl) (by kernel_rfl) (by kernel_rfl) (by kernel_rfl) (fun _ _ _ h => h) (Or.inl ⟨by rfl, fun W hSw => ?_⟩) (by assumption) ?_
  · clear hSw
    go_simp
  simp only [Act.put, List.setIfInBounds_toArray, List.set_cons_zero, List.set_cons_succ]
  refine wpAnyH_ready (rs := [16]) (by kernel_rfl) (by simp) ?_
  refine AllReadyH.cons (by simp only [List.getElem?_toArray, List.getElem?_cons_zero, List.getElem?_cons_succ]; rfl) (fun K hK => ?_) AllReadyH.nil
  rw [if_pos (by rfl)]
  go_simp
  refine hK.out _ _ HFq.out (fun _ => ?_)
  clear hK K
  clear d0 d1 d2 d3 z0 z1 z2 z3
  generalize ((((w5.setCell ⟨w.heap.size + 1, 0, none⟩ (.slice none 0 0)).setCell ⟨w.heap.size + 1, 1, none⟩ (.slice none 0 0)).setCell ⟨w.heap.size + 1, 2, none⟩ (.slice none 0 0)).setCell ⟨w.heap.size + 1, 3, none⟩ (.slice none 0 0)) = w9 at *
  have q0 := HF.out.cell (k := 0) rfl
  have q1 := HF.out.cell (k := 1) rfl
  have q2 := HF.out.cell (k := 2) rfl
  have q3 := HF.out.cell (k := 3) rfl
  refine wpAnyH_take (i := 17) (v := .bool false) (by simp only [List.getElem?_toArray, List.getElem?_cons_zero, List.getElem?_cons_succ]; rfl) (by kernel_rfl) (by kernel_rfl) (by kernel_rfl) (fun _ _ _ h => h) (Or.inl ⟨by rfl, fun W hSw => ?_⟩) (by assumption) ?_
  · clear hSw
    go_simp
  simp only [Act.put, List.setIfInBounds_toArray, List.set_cons_zero, List.set_cons_succ]
  refine wpAnyH_take (i := 18) (v := .bool true) (by simp only [List.getElem?_toArray, List.getElem?_cons_zero, List.getElem?_cons_succ]; rfl) (by kernel_rfl) (by kernel_rfl) (by kernel_rfl) (fun _ _ _ h => h) (Or.inl ⟨by rfl, fun W hSw => ?_⟩) (by assumption) ?_
  · clear hSw
    go_simp
  simp only [Act.put, List.setIfInBounds_toArray, List.set_cons_zero, List.set_cons_succ]
  refine wpAnyH_done (by kernel_rfl) ?_ _
  refine NoPanic.normal ?_
  go_wp2_with fail
  refine bodyPost_ret (v := .tuple #[.pointer none, .agg #[.slice none 0 0, .slice none 0 0, .slice none 0 0, .slice none 0 0], .bool false, .bool true]) (by simp [results, Tryz.results7, go_sem, q0, q1, q2, q3]) rfl ?_
  exact ⟨rfl, HFb.out⟩
end Go.Proofs.YtolmmfbgljgdcaaGreat
