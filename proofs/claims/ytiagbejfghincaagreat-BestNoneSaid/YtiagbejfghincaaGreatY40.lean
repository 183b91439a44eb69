/-
  Reference 29 at any position: Places, from and All where the position lies outside the data.
  The walks of layer 33 (best): the candidate matches of the reference.
-/
import Derived.Test.YtiagbejfghincaaGreatY34
import Derived.Test.YtiagbejfghincaaGreatY26
import Derived.LoopIn
import Derived.Deep.LoopGhost
import Derived.WalkMore
namespace Go.Proofs.YtiagbejfghincaaGreat
open Go.RowKit Go.Port
set_option maxRecDepth 100000 in
set_option maxHeartbeats 4000000 in
theorem rplaces_far (bs : List UInt8) (a : Option Addr) (c A : Nat) (W D p : Int) (w : World) (hb : bs.length ≤ 1000000) (hA : A ≤ bs.length) (hp : p < 0 ∨ (bs.length : Int) - A - 3 < p) :
    Calls Tryz.prog 98 #[fdv a bs.length c A W D, .int .i64 p] w fun e w' => e = .returned (.slice none 0 0) ∧ Below w.heap.size w w' := by
  have H2 := hid (Blk.new w (fdc a bs.length c A W D) 30)
  have HB := hid (below_new w (.cells (fdc a bs.length c A W D).toArray 30))
  have hw1 : IntKind.i64.wrap ((bs.length : Int) - (A : Int)) = (bs.length : Int) - (A : Int) := by rw [IntKind.wrap_i64]; omega
  have hw2 : IntKind.i64.wrap ((bs.length : Int) - (A : Int) - 3) = (bs.length : Int) - (A : Int) - 3 := by rw [IntKind.wrap_i64]; omega
  unfold fdv
  by_cases h0 : p < 0
  · clear hp
    go_enter Tryz.func98, Tryz.ntmps98
    go_wp2
    go_ret
    exact ⟨rfl, HB.out⟩
  · have h1 : (bs.length : Int) - (A : Int) - 3 < p := by omega
    clear hp
    have c0 := H2.out.cell (k := 0) rfl
    have c1 := H2.out.cell (k := 1) rfl
    go_enter Tryz.func98, Tryz.ntmps98
    go_wp2
    go_ret
    exact ⟨rfl, HB.out⟩
theorem placesS_far {bs : List UInt8} {A : Nat} {W D p : Int} (_ : A ≤ bs.length) (hp : p < 0 ∨ (bs.length : Int) - A - 3 < p) : placesS bs A W D p = [] := by
  unfold placesS
  split
  · unfold candS
    rw [if_neg (by omega)]
    rfl
  · rfl
theorem allS_far {bs : List UInt8} {A : Nat} {W D p : Int} (hA : A ≤ bs.length) (hp : p < 0 ∨ (bs.length : Int) - A - 3 < p) : allS bs A W D p = [] := by
  have h := placesS_far (W := W) (D := D) hA hp
  rw [placesS_candL] at h
  have hc : candL bs A W D p = [] := List.map_eq_nil_iff.1 h
  unfold allS
  split
  · rw [hc]; rfl
  · rfl
set_option maxRecDepth 100000 in
set_option maxHeartbeats 4000000 in
theorem rfrom_far (bs : List UInt8) (a : Option Addr) (c A : Nat) (W D p : Int) (w : World) (hb : bs.length ≤ 1000000) (hA : A ≤ bs.length) (hp : p < 0 ∨ (bs.length : Int) - A - 3 < p) :
    Calls Tryz.prog 69 #[fdv a bs.length c A W D, .int .i64 p] w fun e w' => e = .returned (.slice none 0 0) ∧ Below w.heap.size w w' := by
  have H2 := hid (Blk.new w (fdc a bs.length c A W D) 30)
  have hB := below_new w (.cells (fdc a bs.length c A W D).toArray 30)
  have HPl := hid (rplaces_far bs a c A W D p (w.alloc (.cells (fdc a bs.length c A W D).toArray 30)) hb hA hp)
  have HB := hid hB
  unfold fdc at HPl HB H2
  unfold fdv at HPl ⊢
  clear hB hb hA hp
  go_enter Tryz.func69, Tryz.ntmps69
  have c0 := H2.out.cell (k := 0) rfl
  have c1 := H2.out.cell (k := 1) rfl
  have c2 := H2.out.cell (k := 2) rfl
  have c3 := H2.out.cell (k := 3) rfl
  go_wp2_with fail
  refine HPl.out.mono ?_
  rintro e w1 ⟨rfl, hb1⟩
  have HB1 := hid (HB.out.trans (hb1.mono HB.out.size))
  clear hb1 c0 c1 c2 c3 HB H2 HPl
  go_wp2
  go_loopw [6, 7] (fun v i wr => v = .slice none 0 0 ∧ i = .int .i64 0 ∧ wr = w1) (fun _ i _ => 0)
  case atStart => exact ⟨rfl, rfl, rfl⟩
  case round =>
    obtain ⟨rfl, rfl, rfl⟩ := hrel
    go_wp2
    go_ret
    exact ⟨rfl, HB1.out⟩
set_option maxRecDepth 100000 in
set_option maxHeartbeats 4000000 in
theorem rall_far (bs : List UInt8) (a : Option Addr) (c A : Nat) (W D p : Int) (w : World) (hb : bs.length ≤ 1000000) (_ : bs.length ≤ c) (hA : A ≤ bs.length) (_ : 1 ≤ W ∧ W ≤ 134217728) (_ : 1 ≤ D ∧ D ≤ 4096) (hp : p < 0 ∨ (bs.length : Int) - A - 3 < p)
    (hc : CellsAt w a (bs.map bv)) :
    Calls Tryz.prog 34 #[fdv a bs.length c A W D, .int .i64 p] w fun e w' => ∃ v, e = .returned v ∧ w'.ownsRow w.heap.size 44 3 v (allS bs A W D p).length ((allS bs A W D p).flatMap sqc) ∧ Below w.heap.size w w' := by
  rw [allS_far hA hp]
  have HFr := hid (fun W' (_ : Below w.heap.size w W') => rfrom_far bs a c A W D p W' hb hA hp)
  obtain ⟨q, hw1⟩ : ∃ q, IntKind.i64.wrap ((A : Int) + p) = q := ⟨_, rfl⟩
  have HBe := hid (fun W' (hW' : Below w.heap.size w W') => rising_any a none c 0 bs q bs.length [] W' hb (by simp) (at_same hc hW') (fun j u hu => by simp at hu))
  have HX := hid (Blk.new w (fdc a bs.length c A W D) 30)
  have HB := hid (below_new w (.cells (fdc a bs.length c A W D).toArray 30))
  unfold fdc at HB HX
  unfold fdv at HFr ⊢
  clear hc hb hA hp
  go_enter Tryz.func34, Tryz.ntmps34
  go_wp2_with fail
  generalize (w.alloc (.cells #[.slice a bs.length c, .int .i64 (A : Int), .int .i64 W, .int .i64 D] 30)) = w1 at *
  refine wp_region_noPanic ?_
  refine wp_region_held_drew (S := fun W' => Below w.heap.size w W' ∧ Blk W' w.heap.size [.slice a bs.length c, .int .i64 (A : Int), .int .i64 W, .int .i64 D] 30) (by kernel_rfl) ⟨HB.out.drew, HX.out⟩ (fun hHeld => ?_)
  refine wpAnyH_take (i := 0) (v := .pointer (some ⟨w.heap.size, 0, none⟩)) (by simp only [List.getElem?_toArray, List.getElem?_cons_zero]; rfl) (by kernel_rfl) (by kernel_rfl) (by kernel_rfl) (fun _ _ _ h => h) (Or.inl ⟨by rfl, fun W hSw => ?_⟩) (by assumption) ?_
  · clear hSw
    go_simp
  simp only [Act.put, List.setIfInBounds_toArray, List.set_cons_zero, List.set_cons_succ]
  refine wpAnyH_take (i := 1) (v := .slice a bs.length c) (by simp only [List.getElem?_toArray, List.getElem?_cons_zero, List.getElem?_cons_succ]; rfl) (by kernel_rfl) (by kernel_rfl) (by kernel_rfl) (fun _ _ _ h => h) (Or.inl ⟨by rfl, fun W hSw => ?_⟩) (by assumption) ?_
  · have hcw := hSw.2.cell (k := 0) rfl
    go_simp
  simp only [Act.put, List.setIfInBounds_toArray, List.set_cons_zero, List.set_cons_succ]
  refine wpAnyH_take (i := 2) (v := .pointer (some ⟨w.heap.size, 1, none⟩)) (by simp only [List.getElem?_toArray, List.getElem?_cons_zero, List.getElem?_cons_succ]; rfl) (by kernel_rfl) (by kernel_rfl) (by kernel_rfl) (fun _ _ _ h => h) (Or.inl ⟨by rfl, fun W hSw => ?_⟩) (by assumption) ?_
  · clear hSw
    go_simp
  simp only [Act.put, List.setIfInBounds_toArray, List.set_cons_zero, List.set_cons_succ]
  refine wpAnyH_take (i := 3) (v := .int .i64 (A : Int)) (by simp only [List.getElem?_toArray, List.getElem?_cons_zero, List.getElem?_cons_succ]; rfl) (by kernel_rfl) (by kernel_rfl) (by kernel_rfl) (fun _ _ _ h => h) (Or.inl ⟨by rfl, fun W hSw => ?_⟩) (by assumption) ?_
  · have hcw := hSw.2.cell (k := 1) rfl
    go_simp
  simp only [Act.put, List.setIfInBounds_toArray, List.set_cons_zero, List.set_cons_succ]
  refine wpAnyH_take (i := 4) (v := .int .i64 p) (by simp only [List.getElem?_toArray, List.getElem?_cons_zero, List.getElem?_cons_succ]; rfl) (by kernel_rfl) (by kernel_rfl) (by kernel_rfl) (fun _ _ _ h => h) (Or.inl ⟨by rfl, fun W hSw => ?_⟩) (by assumption) ?_
  · clear hSw
    go_simp
  simp only [Act.put, List.setIfInBounds_toArray, List.set_cons_zero, List.set_cons_succ]
  refine wpAnyH_take (i := 5) (v := .int .i64 q) (by simp only [List.getElem?_toArray, List.getElem?_cons_zero, List.getElem?_cons_succ]; rfl) (by kernel_rfl) (by kernel_rfl) (by kernel_rfl) (fun _ _ _ h => h) (Or.inl ⟨by rfl, fun W hSw => ?_⟩) (by assumption) ?_
  · clear hSw
    go_simp
  simp only [Act.put, List.setIfInBounds_toArray, List.set_cons_zero, List.set_cons_succ]
  refine wpAnyH_take (i := 6) (v := .pointer (some ⟨w.heap.size, 0, none⟩)) (by simp only [List.getElem?_toArray, List.getElem?_cons_zero, List.getElem?_cons_succ]; rfl) (by kernel_rfl) (by kernel_rfl) (by kernel_rfl) (fun _ _ _ h => h) (Or.inl ⟨by rfl, fun W hSw => ?_⟩) (by assumption) ?_
  · clear hSw
    go_simp
  simp only [Act.put, List.setIfInBounds_toArray, List.set_cons_zero, List.set_cons_succ]
  refine wpAnyH_take (i := 7) (v := .slice a bs.length c) (by simp only [List.getElem?_toArray, List.getElem?_cons_zero, List.getElem?_cons_succ]; rfl) (by kernel_rfl) (by kernel_rfl) (by kernel_rfl) (fun _ _ _ h => h) (Or.inl ⟨by rfl, fun W hSw => ?_⟩) (by assumption) ?_
  · have hcw := hSw.2.cell (k := 0) rfl
    go_simp
  simp only [Act.put, List.setIfInBounds_toArray, List.set_cons_zero, List.set_cons_succ]
  refine wpAnyH_take (i := 8) (v := .int .i64 (bs.length : Int)) (by simp only [List.getElem?_toArray, List.getElem?_cons_zero, List.getElem?_cons_succ]; rfl) (by kernel_rfl) (by kernel_rfl) (by kernel_rfl) (fun _ _ _ h => h) (Or.inl ⟨by rfl, fun W hSw => ?_⟩) (by assumption) ?_
  · clear hSw
    go_simp
  simp only [Act.put, List.setIfInBounds_toArray, List.set_cons_zero, List.set_cons_succ]
  refine wpAnyH_take (i := 9) (v := .agg #[.slice a bs.length c, .int .i64 (A : Int), .int .i64 W, .int .i64 D]) (by simp only [List.getElem?_toArray, List.getElem?_cons_zero, List.getElem?_cons_succ]; rfl) (by kernel_rfl) (by kernel_rfl) (by kernel_rfl) (fun _ _ _ h => h) (Or.inl ⟨by rfl, fun W hSw => ?_⟩) (by assumption) ?_
  · have hcw0 := hSw.2.cell (k := 0) rfl
    have hcw1 := hSw.2.cell (k := 1) rfl
    have hcw2 := hSw.2.cell (k := 2) rfl
    have hcw3 := hSw.2.cell (k := 3) rfl
    go_simp
  simp only [Act.put, List.setIfInBounds_toArray, List.set_cons_zero, List.set_cons_succ]
  refine wpAnyH_take (i := 10) (v := .int .i64 p) (by simp only [List.getElem?_toArray, List.getElem?_cons_zero, List.getElem?_cons_succ]; rfl) (by kernel_rfl) (by kernel_rfl) (by kernel_rfl) (fun _ _ _ h => h) (Or.inl ⟨by rfl, fun W hSw => ?_⟩) (by assumption) ?_
  · clear hSw
    go_simp
  simp only [Act.put, List.setIfInBounds_toArray, List.set_cons_zero, List.set_cons_succ]
  refine wpAnyH_ready (rs := [11]) (by kernel_rfl) (by simp) ?_
  refine AllReadyH.cons (by simp only [List.getElem?_toArray, List.getElem?_cons_zero, List.getElem?_cons_succ]; rfl) (fun K hK => ?_) AllReadyH.nil
  rw [if_pos (by rfl)]
  go_simp
  go_at_call 69
  refine (HFr.out _ HB.out.drew).mono ?_
  rintro e w2 ⟨rfl, hb2⟩
  dsimp only
  have hb2' : Below w1.heap.size w1 w2 := (show Below w1.heap.size w1 w1.drew from (Below.refl _ _).drew).trans hb2
  have HB2 := hid (HB.out.trans (hb2'.mono HB.out.size))
  have HF2 := hid (HX.out.below hb2' HX.out.lt)
  refine hK.out _ _ ⟨HB2.out, HF2.out⟩ (fun _ => ?_)
  clear hK K hb2 hb2' HB HX
  refine wpAnyH_ready (rs := [12]) (by kernel_rfl) (by simp) ?_
  refine AllReadyH.cons (by simp only [List.getElem?_toArray, List.getElem?_cons_zero, List.getElem?_cons_succ]; rfl) (fun K hK => ?_) AllReadyH.nil
  rw [if_pos (by rfl)]
  go_simp
  go_at_call 68
  refine (HBe.out w2 HB2.out).mono ?_
  rintro e w3 ⟨v, rfl, hown, hb3⟩
  obtain ⟨ar, cr, rfl⟩ := own_slice hown
  dsimp only
  have HB3 := hid (HB2.out.trans (hb3.mono HB2.out.size))
  have HF3 := hid (HF2.out.below hb3 HF2.out.lt)
  have HO3 := hid (own_le hown HB2.out.size)
  refine hK.out _ _ ⟨HB3.out, HF3.out⟩ (fun _ => ?_)
  clear hK K hb3 hown HB2 HF2
  refine wpAnyH_ready (rs := [13]) (by kernel_rfl) (by simp) ?_
  refine AllReadyH.cons (by simp only [List.getElem?_toArray, List.getElem?_cons_zero, List.getElem?_cons_succ]; rfl) (fun K hK => ?_) AllReadyH.nil
  rw [if_pos (by rfl)]
  go_simp
  refine hK.out _ _ ⟨HB3.out, HF3.out⟩ (fun _ => ?_)
  clear hK K
  refine wpAnyH_done (by kernel_rfl) ?_ _
  refine NoPanic.normal ?_
  go_wp2
  go_ret
  exact ⟨_, rfl, HO3.out, HB3.out⟩
theorem rall_all (bs : List UInt8) (a : Option Addr) (c A : Nat) (W D p : Int) (w : World) (hb : bs.length ≤ 1000000) (hbc : bs.length ≤ c) (hA : A ≤ bs.length) (hW : 1 ≤ W ∧ W ≤ 134217728) (hD : 1 ≤ D ∧ D ≤ 4096) (hc : CellsAt w a (bs.map bv)) :
    Calls Tryz.prog 34 #[fdv a bs.length c A W D, .int .i64 p] w fun e w' => ∃ v, e = .returned v ∧ w'.ownsRow w.heap.size 44 3 v (allS bs A W D p).length ((allS bs A W D p).flatMap sqc) ∧ Below w.heap.size w w' := by
  by_cases h : p < 0 ∨ (bs.length : Int) - A - 3 < p
  · exact rall_far bs a c A W D p w hb hbc hA hW hD h hc
  · exact rall_at bs a c A W D p w hb hbc hA hW hD (by omega) hc
end Go.Proofs.YtiagbejfghincaaGreat
namespace Go.Port
open Go.RowKit
theorem bLast_get {l : List Sq} {n : Nat} (h : l.length = n + 1) : l[n]? = some (bLast l) := by
  unfold bLast
  rw [List.getLastD_eq_getLast?, List.getLast?_eq_getElem?, h, Nat.add_sub_cancel, List.getElem?_eq_getElem (by omega)]
  rfl
theorem offAt_at : ∀ (l : List Sq) (k : Nat) (m : Int) (x : Sq), (∀ i, i < k → ∀ s, l[i]? = some s → s.len < m) → l[k]? = some x → m ≤ x.len → offAt l m = x.off := by
  intro l
  induction l with
  | nil => intro k m x _ h; simp at h
  | cons s r ih =>
    intro k m x h hx hm
    cases k with
    | zero =>
      simp only [List.getElem?_cons_zero, Option.some.injEq] at hx
      subst hx
      simp only [offAt]
      rw [if_pos hm]
    | succ k =>
      have h0 := h 0 (by omega) s rfl
      simp only [offAt]
      rw [if_neg (by omega)]
      exact ih k m x (fun i hi t ht => h (i + 1) (by omega) t ht) hx hm
theorem allS_rising (bs : List UInt8) (A : Nat) (W D p : Int) : Rising 3 (allS bs A W D p) := by
  unfold allS
  split
  · exact (rise_rising _ _ 0 2 : Rising ((2 : Int) + 1) _)
  · exact trivial
end Go.Port
namespace Go.Proofs.YtiagbejfghincaaGreat
open Go.RowKit Go.Port
attribute [local go_sem] Oper.semAt_some
set_option maxRecDepth 1000000 in
set_option maxHeartbeats 8000000 in
theorem rsteps_any (bs : List UInt8) (a : Option Addr) (c A : Nat) (Wd D p : Int) (w : World) (hb : bs.length ≤ 1000000) (hbc : bs.length ≤ c) (hA : A ≤ bs.length) (hW : 1 ≤ Wd ∧ Wd ≤ 134217728) (hD : 1 ≤ D ∧ D ≤ 4096) (hc : CellsAt w a (bs.map bv)) :
    Calls Tryz.prog 13 #[fdv a bs.length c A Wd D, .int .i64 p] w fun e w' => ∃ v, e = .returned v ∧ w'.ownsRow w.heap.size 44 3 v (bSteps (allS bs A Wd D p)).length ((bSteps (allS bs A Wd D p)).flatMap sqc) ∧ Below w.heap.size w w' := by
  have HAl := hid (fun W' (hb' : Below w.heap.size w W') => rall_all bs a c A Wd D p W' hb hbc hA hW hD (at_same hc hb'))
  have hlen := allS_length bs A Wd D p (by omega)
  have hris := allS_rising bs A Wd D p
  unfold fdv at HAl ⊢
  have HL := hid (And.intro (show (allS bs A Wd D p).length ≤ 100000 by omega) hris)
  clear hlen hris
  generalize (allS bs A Wd D p) = l at *
  have hB1 := below_new w (.cells #[.slice a bs.length c, .int .i64 (A : Int), .int .i64 Wd, .int .i64 D] 30)
  have hX1 := Blk.new w [.slice a bs.length c, .int .i64 (A : Int), .int .i64 Wd, .int .i64 D] 30
  have hs1 : (w.alloc (.cells #[.slice a bs.length c, .int .i64 (A : Int), .int .i64 Wd, .int .i64 D] 30)).heap.size = w.heap.size + 1 := by simp
  have x0 := hX1.cell (k := 0) rfl
  have x1 := hX1.cell (k := 1) rfl
  have x2 := hX1.cell (k := 2) rfl
  have x3 := hX1.cell (k := 3) rfl
  have HB1 := hid hB1
  have HS1 := hid hs1
  clear hb hbc hA hW hD hc hB1 hX1 hs1
  go_enter Tryz.func13, Tryz.ntmps13
  go_wp2_with fail
  generalize w.alloc (.cells #[.slice a bs.length c, .int .i64 (A : Int), .int .i64 Wd, .int .i64 D] 30) = w1 at *
  refine (HAl.out _ HB1.out).mono ?_
  rintro e w3 ⟨v, rfl, hown, hb3⟩
  obtain ⟨av, cv, rfl⟩ := own_slice hown
  have HC := hid (own_rows hown).1
  have HB3 := hid (HB1.out.trans (hb3.mono HB1.out.size))
  have HZ3 := hid (show w.heap.size + 1 ≤ w3.heap.size by have := hb3.size; have := HS1.out; omega)
  clear hown hb3 x0 x1 x2 x3 HAl
  cases hn : l.length with
  | zero =>
    have hl : l = [] := List.eq_nil_of_length_eq_zero hn
    subst hl
    go_wp2
    go_ret
    exact ⟨_, rfl, World.ownsRow_nil _ _ _ _, HB3.out⟩
  | succ n9 =>
    have hne : l ≠ [] := by rintro rfl; cases hn
    have hx := bLast_get hn
    obtain ⟨⟨xl, xn, xo⟩, hlast⟩ : ∃ x, x = bLast l := ⟨_, rfl⟩
    rw [← hlast] at hx
    obtain ⟨bl, off, rfl, hb0, c0⟩ := HC.out (n9 * 3 + 0) (.int .i64 xl) (by rw [sqc_get hx 0 (by omega)]; rfl)
    obtain ⟨_, _, e1, _, c1⟩ := HC.out (n9 * 3 + 1) (.int .i64 xn) (by rw [sqc_get hx 1 (by omega)]; rfl)
    cases e1
    obtain ⟨_, _, e2, _, c2⟩ := HC.out (n9 * 3 + 2) (.int .i64 xo) (by rw [sqc_get hx 2 (by omega)]; rfl)
    cases e2
    rw [Nat.add_zero] at c0
    rw [← Nat.add_assoc] at c1 c2
    have hr3 := rising_last l 3 hne HL.out.2
    have hoff := bGo_off l 3 3 hne HL.out.2
    have hbs : bSteps l = bGo 3 l ++ (if 64 < (bLast l).len then [bLast l] else []) := rfl
    rw [← hlast] at hr3 hoff hbs
    dsimp only at hr3 hoff hbs
    have hnI : ((n9 + 1 : Nat) : Int) = (n9 : Int) + 1 := by omega
    have hn1 := HL.out.1
    rw [hn] at hn1
    have HH := hid (And.intro hn (And.intro hx (And.intro hr3 (And.intro hoff hbs))))
    clear hn hx hoff hbs hlast hne hr3
    go_wp2_with fail
    have hZ4 := Blk.new w3 [.int .i64 xl, .int .i64 xn, .int .i64 xo] 44
    have hB4 := below_new w3 (.cells #[.int .i64 xl, .int .i64 xn, .int .i64 xo] 44)
    have hs4 : (w3.alloc (.cells #[.int .i64 xl, .int .i64 xn, .int .i64 xo] 44)).heap.size = w3.heap.size + 1 := by simp
    have HZ4 := hid hZ4
    have HS4 := hid hs4
    have HC4 := hid (HC.out.low hB4)
    have HB4 := hid (HB3.out.trans (hB4.mono HB3.out.size))
    clear hZ4 hB4 hs4 c0 c1 c2
    generalize w3.alloc (.cells #[.int .i64 xl, .int .i64 xn, .int .i64 xo] 44) = w4 at *
    go_loopg [6, 8, 9] (70) (fun gk o t n wr => ∃ (j k : Nat), gk = 70 - j ∧ wr.ownsRow w4.heap.size 44 3 o j (((spanN 3 j).map (fun m => (⟨0, m, offAt l m⟩ : Sq))).flatMap sqc) ∧ t = .int .i64 k ∧ n = .int .i64 (3 + j) ∧ Hid (k < n9 + 1 ∧ (∀ i, i < k → ∀ s, l[i]? = some s → s.len < 3 + j) ∧ 3 + (j : Int) ≤ min 64 xn + 1) ∧ Hid (Below w4.heap.size w4 wr))
    case atStart => exact ⟨0, 0, rfl, World.ownsRow_nil _ _ _ _, rfl, rfl, hid ⟨by omega, fun i hi => absurd hi (Nat.not_lt_zero i), by have := HH.out.2.2.1; omega⟩, hid (Below.refl _ _)⟩
    case round =>
      obtain ⟨j, k, hgk, hown, rfl, rfl, HI, HB⟩ := hrel
      have HG := hid hgk
      clear hgk
      obtain ⟨oa, oc, rfl⟩ := own_slice hown
      have hZ := HZ4.out.below HB.out (by have := HZ4.out.lt; omega)
      have z1 := hZ.cell (k := 1) rfl
      have HO := hid hown
      have HZr := hid hZ
      clear hown hZ
      have hj3 := HI.out.2.2
      by_cases hq : 3 + (j : Int) ≤ min 64 xn
      · go_wp2
        go_loopg [8] (n9 + 1 - k) (fun gm t w9 => ∃ k : Nat, gm = n9 + 1 - k ∧ t = .int .i64 k ∧ w9 = wr ∧ Hid (k < n9 + 1 ∧ (∀ i, i < k → ∀ s, l[i]? = some s → s.len < 3 + j)))
        case atStart => exact ⟨k, rfl, rfl, rfl, hid ⟨HI.out.1, HI.out.2.1⟩⟩
        case round =>
          obtain ⟨k2, hgm, rfl, rfl, HI2⟩ := hrel
          have HGm := hid hgm
          clear hgm
          obtain ⟨⟨yl, yn, yo⟩, hy⟩ : ∃ y, l[k2]? = some y := ⟨l[k2]'(by have := HI2.out.1; have := HH.out.1; omega), by simp⟩
          obtain ⟨_, _, e1, _, d1⟩ := HC4.out.low HB.out (k2 * 3 + 1) (.int .i64 yn) (by rw [sqc_get hy 1 (by omega)]; rfl)
          cases e1
          obtain ⟨_, _, e2, _, d2⟩ := HC4.out.low HB.out (k2 * 3 + 2) (.int .i64 yo) (by rw [sqc_get hy 2 (by omega)]; rfl)
          cases e2
          rw [← Nat.add_assoc] at d1 d2
          have hk2 := HI2.out.1
          by_cases hlt : yn < 3 + (j : Int)
          · have HN := hid (show k2 + 1 < n9 + 1 ∧ (∀ i, i < k2 + 1 → ∀ s, l[i]? = some s → s.len < 3 + j) from ⟨by
              by_cases he : k2 = n9
              · subst he
                have := HH.out.2.1
                rw [hy] at this
                cases this
                omega
              · omega, fun i hi s hs => by
                by_cases he : i = k2
                · subst he
                  rw [hy] at hs
                  cases hs
                  exact hlt
                · exact HI2.out.2 i (by omega) s hs⟩)
            have HY := hid hy
            clear hy
            go_wp2
            go_roundg (n9 + 1 - (k2 + 1))
            case rel => exact ⟨k2 + 1, rfl, by go_num, rfl, HN⟩
            case measure => have := HGm.out; omega
          · have hof := offAt_at l k2 (3 + (j : Int)) _ HI2.out.2 hy (by dsimp only; omega)
            dsimp only at hof
            have HOf := hid (And.intro hof hy)
            have HNext := hid (show k2 < n9 + 1 ∧ (∀ i, i < k2 → ∀ s, l[i]? = some s → s.len < 3 + ((j + 1 : Nat) : Int)) ∧ 3 + ((j + 1 : Nat) : Int) ≤ min 64 xn + 1 from ⟨hk2, fun i hi s hs => by have := HI2.out.2 i hi s hs; omega, by omega⟩)
            have hjl : j ≤ 64 := by omega
            have HHb := hid HB.out.size
            clear hof hy
            go_wp2_with (at_builtin; refine Hid.out ?_)
            refine hid ?_
            refine wpList_append1 rfl _ _ 38 rfl 44 _ 3 24 Tryz.underlying38 Tryz.info_seq rfl (by decide) (by decide) _ w4.heap.size _ j _ [.int .i64 0, .int .i64 (3 + (j : Int)), .int .i64 yo] rfl ?hu rfl rfl (by exact HO.out) ?hn (by exact HHb.out) ?hk
            case hu => simp [Value.oneCell']
            case hn => omega
            case hk =>
              intro v' w7 hown' hg
              have hbg := below_grown HO.out hg HHb.out
              have HB7 := hid (HB.out.trans hbg)
              have HO7 := hid hown'
              clear hown' hg hbg
              go_wp2
              go_roundg (70 - (j + 1))
              case rel =>
                refine ⟨j + 1, k2, rfl, ?_, rfl, by go_num, HNext, HB7⟩
                rw [spanN_snoc, List.map_append, List.flatMap_append]
                have h := HO7.out
                rw [← HOf.out.1] at h
                exact h
              case measure => have := HG.out; omega
      · have hje : j = (min 64 xn + 1 - 3).toNat := by omega
        have hsp : (spanN 3 j).map (fun m => (⟨0, m, offAt l m⟩ : Sq)) = bGo 3 l := by
          rw [HH.out.2.2.2.1]
          unfold span
          rw [← hje]
        have HO2 := hid (hsp ▸ HO.out)
        have hjl : j ≤ 64 := by omega
        have hbl : (bGo 3 l).length = j := by rw [← hsp, List.length_map, spanN_length]
        clear hsp hje
        have hZc := HZr.out
        have z0 := hZc.cell (k := 0) rfl
        have z2 := hZc.cell (k := 2) rfl
        have HBf := hid (HB4.out.trans (HB.out.mono HB4.out.size))
        have hwz : w.heap.size ≤ w4.heap.size := HB4.out.size
        clear hZc
        by_cases h64 : 64 < xn
        · have hbs := HH.out.2.2.2.2
          rw [if_pos h64] at hbs
          have HBs := hid (And.intro hbs hbl)
          clear hbs hbl
          go_wp2_with (at_builtin; refine Hid.out ?_)
          refine hid ?_
          refine wpList_append1 rfl _ _ 38 rfl 44 _ 3 24 Tryz.underlying38 Tryz.info_seq rfl (by decide) (by decide) _ w4.heap.size _ j _ [.int .i64 xl, .int .i64 xn, .int .i64 xo] rfl ?hu rfl rfl (by exact HO2.out) ?hn (by exact HB.out.size) ?hk
          case hu => simp [Value.oneCell']
          case hn => omega
          case hk =>
            intro v' w7 hown' hg
            have hbg := below_grown HO2.out hg HB.out.size
            have HB7 := hid (HBf.out.trans (hbg.mono hwz))
            have HO7 := hid hown'
            clear hown' hg hbg
            go_wp2
            go_ret
            refine ⟨_, rfl, ?_, HB7.out⟩
            rw [HBs.out.1, List.length_append, HBs.out.2, List.flatMap_append]
            exact own_le HO7.out hwz
        · have hbs := HH.out.2.2.2.2
          rw [if_neg h64, List.append_nil] at hbs
          have HBs := hid (And.intro hbs hbl)
          clear hbs hbl
          go_wp2
          go_ret
          refine ⟨_, rfl, ?_, HBf.out⟩
          rw [HBs.out.1, HBs.out.2]
          exact own_le HO2.out hwz
end Go.Proofs.YtiagbejfghincaaGreat
