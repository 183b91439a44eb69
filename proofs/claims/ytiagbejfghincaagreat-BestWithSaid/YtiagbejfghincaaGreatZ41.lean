/-
  Reference 29 at any position: Places, from and All where the position lies outside the data.
-/
import Derived.Test.YtiagbejfghincaaGreatZ35
namespace Go.Proofs.YtiagbejfghincaaGreat
open Go.RowKit Go.Port
set_option maxRecDepth 100000 in
set_option maxHeartbeats 4000000 in
theorem rplaces_far (bs : List UInt8) (a : Option Addr) (c A : Nat) (W D p : Int) (w : World) (hb : bs.length ≤ 1000000) (hA : A ≤ bs.length) (hp : p < 0 ∨ (bs.length : Int) - A - 3 < p) :
    Calls Tryz.prog 98 #[fdv a bs.length c A W D, .int .i64 p] w fun e w' => e = .returned (.slice none 0 0) ∧ Below w.heap.size w w' := by
  have H2 := hid (Blk.new w (fdc a bs.length c A W D) 30)
  have HB := hid (below_new w (.cells (fdc a bs.length c A W D).toArray 30))
  have hw1 : IntKind.i64.wrap ((bs.length : Int) - (A : Int)) = (bs.length : Int) - (A : Int) := by rw [IntKind.wrap_i64]; omega
  have hw2 : IntKind.i64.wrap ((bs.length : Int) - (A : Int) - 3) = (bs.length : Int) - (A : Int) - 3 := by rw [IntKind.wrap_i64]; omega
  unfold fdv
  by_cases h0 : p < 0
  · clear hp
    go_enter Tryz.func98, Tryz.ntmps98
    go_wp2
    go_ret
    exact ⟨rfl, HB.out⟩
  · have h1 : (bs.length : Int) - (A : Int) - 3 < p := by omega
    clear hp
    have c0 := H2.out.cell (k := 0) rfl
    have c1 := H2.out.cell (k := 1) rfl
    go_enter Tryz.func98, Tryz.ntmps98
    go_wp2
    go_ret
    exact ⟨rfl, HB.out⟩
theorem placesS_far {bs : List UInt8} {A : Nat} {W D p : Int} (_ : A ≤ bs.length) (hp : p < 0 ∨ (bs.length : Int) - A - 3 < p) : placesS bs A W D p = [] := by
  unfold placesS
  split
  · unfold candS
    rw [if_neg (by omega)]
    rfl
  · rfl
theorem allS_far {bs : List UInt8} {A : Nat} {W D p : Int} (hA : A ≤ bs.length) (hp : p < 0 ∨ (bs.length : Int) - A - 3 < p) : allS bs A W D p = [] := by
  have h := placesS_far (W := W) (D := D) hA hp
  rw [placesS_candL] at h
  have hc : candL bs A W D p = [] := List.map_eq_nil_iff.1 h
  unfold allS
  split
  · rw [hc]; rfl
  · rfl
set_option maxRecDepth 100000 in
set_option maxHeartbeats 4000000 in
theorem rfrom_far (bs : List UInt8) (a : Option Addr) (c A : Nat) (W D p : Int) (w : World) (hb : bs.length ≤ 1000000) (hA : A ≤ bs.length) (hp : p < 0 ∨ (bs.length : Int) - A - 3 < p) :
    Calls Tryz.prog 69 #[fdv a bs.length c A W D, .int .i64 p] w fun e w' => e = .returned (.slice none 0 0) ∧ Below w.heap.size w w' := by
  have H2 := hid (Blk.new w (fdc a bs.length c A W D) 30)
  have hB := below_new w (.cells (fdc a bs.length c A W D).toArray 30)
  have HPl := hid (rplaces_far bs a c A W D p (w.alloc (.cells (fdc a bs.length c A W D).toArray 30)) hb hA hp)
  have HB := hid hB
  unfold fdc at HPl HB H2
  unfold fdv at HPl ⊢
  clear hB hb hA hp
  go_enter Tryz.func69, Tryz.ntmps69
  have c0 := H2.out.cell (k := 0) rfl
  have c1 := H2.out.cell (k := 1) rfl
  have c2 := H2.out.cell (k := 2) rfl
  have c3 := H2.out.cell (k := 3) rfl
  go_wp2_with fail
  refine HPl.out.mono ?_
  rintro e w1 ⟨rfl, hb1⟩
  have HB1 := hid (HB.out.trans (hb1.mono HB.out.size))
  clear hb1 c0 c1 c2 c3 HB H2 HPl
  go_wp2
  go_loopw [6, 7] (fun v i wr => v = .slice none 0 0 ∧ i = .int .i64 0 ∧ wr = w1) (fun _ i _ => 0)
  case atStart => exact ⟨rfl, rfl, rfl⟩
  case round =>
    obtain ⟨rfl, rfl, rfl⟩ := hrel
    go_wp2
    go_ret
    exact ⟨rfl, HB1.out⟩
set_option maxRecDepth 100000 in
set_option maxHeartbeats 4000000 in
theorem rall_far (bs : List UInt8) (a : Option Addr) (c A : Nat) (W D p : Int) (w : World) (hb : bs.length ≤ 1000000) (_ : bs.length ≤ c) (hA : A ≤ bs.length) (_ : 1 ≤ W ∧ W ≤ 134217728) (_ : 1 ≤ D ∧ D ≤ 4096) (hp : p < 0 ∨ (bs.length : Int) - A - 3 < p)
    (hc : CellsAt w a (bs.map bv)) :
    Calls Tryz.prog 34 #[fdv a bs.length c A W D, .int .i64 p] w fun e w' => ∃ v, e = .returned v ∧ w'.ownsRow w.heap.size 44 3 v (allS bs A W D p).length ((allS bs A W D p).flatMap sqc) ∧ Below w.heap.size w w' := by
  rw [allS_far hA hp]
  have HFr := hid (fun W' (_ : Below w.heap.size w W') => rfrom_far bs a c A W D p W' hb hA hp)
  obtain ⟨q, hw1⟩ : ∃ q, IntKind.i64.wrap ((A : Int) + p) = q := ⟨_, rfl⟩
  have HBe := hid (fun W' (hW' : Below w.heap.size w W') => rising_any a none c 0 bs q bs.length [] W' hb (by simp) (at_same hc hW') (fun j u hu => by simp at hu))
  have HX := hid (Blk.new w (fdc a bs.length c A W D) 30)
  have HB := hid (below_new w (.cells (fdc a bs.length c A W D).toArray 30))
  unfold fdc at HB HX
  unfold fdv at HFr ⊢
  clear hc hb hA hp
  go_enter Tryz.func34, Tryz.ntmps34
  go_wp2_with fail
  generalize (w.alloc (.cells #[.slice a bs.length c, .int .i64 (A : Int), .int .i64 W, .int .i64 D] 30)) = w1 at *
  refine wp_region_noPanic ?_
  refine wp_region_held_drew (S := fun W' => Below w.heap.size w W' ∧ Blk W' w.heap.size [.slice a bs.length c, .int .i64 (A : Int), .int .i64 W, .int .i64 D] 30) (by kernel_rfl) ⟨HB.out.drew, HX.out⟩ (fun hHeld => ?_)
  refine wpAnyH_take (i := 0) (v := .pointer (some ⟨w.heap.size, 0, none⟩)) (by simp only [List.getElem?_toArray, List.getElem?_cons_zero]; rfl) (by kernel_rfl) (by kernel_rfl) (by kernel_rfl) (fun _ _ _ h => h) (Or.inl ⟨by rfl, fun W hSw => ?_⟩) (by assumption) ?_
  · clear hSw
    go_simp
  simp only [Act.put, List.setIfInBounds_toArray, List.set_cons_zero, List.set_cons_succ]
  refine wpAnyH_take (i := 1) (v := .slice a bs.length c) (by simp only [List.getElem?_toArray, List.getElem?_cons_zero, List.getElem?_cons_succ]; rfl) (by kernel_rfl) (by kernel_rfl) (by kernel_rfl) (fun _ _ _ h => h) (Or.inl ⟨by rfl, fun W hSw => ?_⟩) (by assumption) ?_
  · have hcw := hSw.2.cell (k := 0) rfl
    go_simp
  simp only [Act.put, List.setIfInBounds_toArray, List.set_cons_zero, List.set_cons_succ]
  refine wpAnyH_take (i := 2) (v := .pointer (some ⟨w.heap.size, 1, none⟩)) (by simp only [List.getElem?_toArray, List.getElem?_cons_zero, List.getElem?_cons_succ]; rfl) (by kernel_rfl) (by kernel_rfl) (by kernel_rfl) (fun _ _ _ h => h) (Or.inl ⟨by rfl, fun W hSw => ?_⟩) (by assumption) ?_
  · clear hSw
    go_simp
  simp only [Act.put, List.setIfInBounds_toArray, List.set_cons_zero, List.set_cons_succ]
  refine wpAnyH_take (i := 3) (v := .int .i64 (A : Int)) (by simp only [List.getElem?_toArray, List.getElem?_cons_zero, List.getElem?_cons_succ]; rfl) (by kernel_rfl) (by kernel_rfl) (by kernel_rfl) (fun _ _ _ h => h) (Or.inl ⟨by rfl, fun W hSw => ?_⟩) (by assumption) ?_
  · have hcw := hSw.2.cell (k := 1) rfl
    go_simp
  simp only [Act.put, List.setIfInBounds_toArray, List.set_cons_zero, List.set_cons_succ]
  refine wpAnyH_take (i := 4) (v := .int .i64 p) (by simp only [List.getElem?_toArray, List.getElem?_cons_zero, List.getElem?_cons_succ]; rfl) (by kernel_rfl) (by kernel_rfl) (by kernel_rfl) (fun _ _ _ h => h) (Or.inl ⟨by rfl, fun W hSw => ?_⟩) (by assumption) ?_
  · clear hSw
    go_simp
  simp only [Act.put, List.setIfInBounds_toArray, List.set_cons_zero, List.set_cons_succ]
  refine wpAnyH_take (i := 5) (v := .int .i64 q) (by simp only [List.getElem?_toArray, List.getElem?_cons_zero, List.getElem?_cons_succ]; rfl) (by kernel_rfl) (by kernel_rfl) (by kernel_rfl) (fun _ _ _ h => h) (Or.inl ⟨by rfl, fun W hSw => ?_⟩) (by assumption) ?_
  · clear hSw
    go_simp
  simp only [Act.put, List.setIfInBounds_toArray, List.set_cons_zero, List.set_cons_succ]
  refine wpAnyH_take (i := 6) (v := .pointer (some ⟨w.heap.size, 0, none⟩)) (by simp only [List.getElem?_toArray, List.getElem?_cons_zero, List.getElem?_cons_succ]; rfl) (by kernel_rfl) (by kernel_rfl) (by kernel_rfl) (fun _ _ _ h => h) (Or.inl ⟨by rfl, fun W hSw => ?_⟩) (by assumption) ?_
  · clear hSw
    go_simp
  simp only [Act.put, List.setIfInBounds_toArray, List.set_cons_zero, List.set_cons_succ]
  refine wpAnyH_take (i := 7) (v := .slice a bs.length c) (by simp only [List.getElem?_toArray, List.getElem?_cons_zero, List.getElem?_cons_succ]; rfl) (by kernel_rfl) (by kernel_rfl) (by kernel_rfl) (fun _ _ _ h => h) (Or.inl ⟨by rfl, fun W hSw => ?_⟩) (by assumption) ?_
  · have hcw := hSw.2.cell (k := 0) rfl
    go_simp
  simp only [Act.put, List.setIfInBounds_toArray, List.set_cons_zero, List.set_cons_succ]
  refine wpAnyH_take (i := 8) (v := .int .i64 (bs.length : Int)) (by simp only [List.getElem?_toArray, List.getElem?_cons_zero, List.getElem?_cons_succ]; rfl) (by kernel_rfl) (by kernel_rfl) (by kernel_rfl) (fun _ _ _ h => h) (Or.inl ⟨by rfl, fun W hSw => ?_⟩) (by assumption) ?_
  · clear hSw
    go_simp
  simp only [Act.put, List.setIfInBounds_toArray, List.set_cons_zero, List.set_cons_succ]
  refine wpAnyH_take (i := 9) (v := .agg #[.slice a bs.length c, .int .i64 (A : Int), .int .i64 W, .int .i64 D]) (by simp only [List.getElem?_toArray, List.getElem?_cons_zero, List.getElem?_cons_succ]; rfl) (by kernel_rfl) (by kernel_rfl) (by kernel_rfl) (fun _ _ _ h => h) (Or.inl ⟨by rfl, fun W hSw => ?_⟩) (by assumption) ?_
  · have hcw0 := hSw.2.cell (k := 0) rfl
    have hcw1 := hSw.2.cell (k := 1) rfl
    have hcw2 := hSw.2.cell (k := 2) rfl
    have hcw3 := hSw.2.cell (k := 3) rfl
    go_simp
  simp only [Act.put, List.setIfInBounds_toArray, List.set_cons_zero, List.set_cons_succ]
  refine wpAnyH_take (i := 10) (v := .int .i64 p) (by simp only [List.getElem?_toArray, List.getElem?_cons_zero, List.getElem?_cons_succ]; rfl) (by kernel_rfl) (by kernel_rfl) (by kernel_rfl) (fun _ _ _ h => h) (Or.inl ⟨by rfl, fun W hSw => ?_⟩) (by assumption) ?_
  · clear hSw
    go_simp
  simp only [Act.put, List.setIfInBounds_toArray, List.set_cons_zero, List.set_cons_succ]
  refine wpAnyH_ready (rs := [11]) (by kernel_rfl) (by simp) ?_
  refine AllReadyH.cons (by simp only [List.getElem?_toArray, List.getElem?_cons_zero, List.getElem?_cons_succ]; rfl) (fun K hK => ?_) AllReadyH.nil
  rw [if_pos (by rfl)]
  go_simp
  go_at_call 69
  refine (HFr.out _ HB.out.drew).mono ?_
  rintro e w2 ⟨rfl, hb2⟩
  dsimp only
  have hb2' : Below w1.heap.size w1 w2 := (show Below w1.heap.size w1 w1.drew from (Below.refl _ _).drew).trans hb2
  have HB2 := hid (HB.out.trans (hb2'.mono HB.out.size))
  have HF2 := hid (HX.out.below hb2' HX.out.lt)
  refine hK.out _ _ ⟨HB2.out, HF2.out⟩ (fun _ => ?_)
  clear hK K hb2 hb2' HB HX
  refine wpAnyH_ready (rs := [12]) (by kernel_rfl) (by simp) ?_
  refine AllReadyH.cons (by simp only [List.getElem?_toArray, List.getElem?_cons_zero, List.getElem?_cons_succ]; rfl) (fun K hK => ?_) AllReadyH.nil
  rw [if_pos (by rfl)]
  go_simp
  go_at_call 68
  refine (HBe.out w2 HB2.out).mono ?_
  rintro e w3 ⟨v, rfl, hown, hb3⟩
  obtain ⟨ar, cr, rfl⟩ := own_slice hown
  dsimp only
  have HB3 := hid (HB2.out.trans (hb3.mono HB2.out.size))
  have HF3 := hid (HF2.out.below hb3 HF2.out.lt)
  have HO3 := hid (own_le hown HB2.out.size)
  refine hK.out _ _ ⟨HB3.out, HF3.out⟩ (fun _ => ?_)
  clear hK K hb3 hown HB2 HF2
  refine wpAnyH_ready (rs := [13]) (by kernel_rfl) (by simp) ?_
  refine AllReadyH.cons (by simp only [List.getElem?_toArray, List.getElem?_cons_zero, List.getElem?_cons_succ]; rfl) (fun K hK => ?_) AllReadyH.nil
  rw [if_pos (by rfl)]
  go_simp
  refine hK.out _ _ ⟨HB3.out, HF3.out⟩ (fun _ => ?_)
  clear hK K
  refine wpAnyH_done (by kernel_rfl) ?_ _
  refine NoPanic.normal ?_
  go_wp2
  go_ret
  exact ⟨_, rfl, HO3.out, HB3.out⟩
theorem rall_all (bs : List UInt8) (a : Option Addr) (c A : Nat) (W D p : Int) (w : World) (hb : bs.length ≤ 1000000) (hbc : bs.length ≤ c) (hA : A ≤ bs.length) (hW : 1 ≤ W ∧ W ≤ 134217728) (hD : 1 ≤ D ∧ D ≤ 4096) (hc : CellsAt w a (bs.map bv)) :
    Calls Tryz.prog 34 #[fdv a bs.length c A W D, .int .i64 p] w fun e w' => ∃ v, e = .returned v ∧ w'.ownsRow w.heap.size 44 3 v (allS bs A W D p).length ((allS bs A W D p).flatMap sqc) ∧ Below w.heap.size w w' := by
  by_cases h : p < 0 ∨ (bs.length : Int) - A - 3 < p
  · exact rall_far bs a c A W D p w hb hbc hA hW hD h hc
  · exact rall_at bs a c A W D p w hb hbc hA hW hD (by omega) hc
end Go.Proofs.YtiagbejfghincaaGreat
