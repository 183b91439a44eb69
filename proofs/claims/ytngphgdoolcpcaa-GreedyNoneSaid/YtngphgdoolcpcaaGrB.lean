/-
  The walks of the reference of layer 29: the positions of the candidates, the match found.
-/
import Derived.Test.YtngphgdoolcpcaaGrA
import Derived.Test.YtngphgdoolcpcaaChF
import Derived.Test.YtngphgdoolcpcaaMatchP
import Derived.Test.YtngphgdoolcpcaaMem
namespace Go.Port
open Go.RowKit
theorem placesS_eq (bs : List UInt8) (A : Nat) (W D p : Int) : placesS bs A W D p = (candL bs A W D p).map fun q => A + p.toNat - q := by
  unfold placesS candL
  split
  · rfl
  · rfl
theorem candL_own {bs : List UInt8} {A : Nat} {W D p : Int} {q : Nat} (h : q ∈ candL bs A W D p) : 0 ≤ p ∧ q < A + p.toNat := by
  unfold candL at h
  split at h
  · rename_i hp
    have := candS_mem h
    exact ⟨hp.1, this.1⟩
  · simp at h
theorem refBest_pos (b : List UInt8) (pos most : Int) (frm : List Int) : decide (0 < (refBestGo Sq.zero (matchesS b pos most frm)).len) = (bestS b pos most frm).isSome := by
  rw [refBest_eq]
  cases h : bestS b pos most frm with
  | none => rfl
  | some s =>
    have := (bestS_mem h).2
    simp only [Option.getD_some, Option.isSome_some, decide_eq_true_eq]
    omega
theorem findS_cand {bs : List UInt8} {A : Nat} {W D p : Int} : bestS bs ((A : Int) + p) bs.length ((candL bs A W D p).map fun (q : Nat) => (q : Int)) = findS bs A W D p := by
  unfold findS candL
  split
  · rename_i h
    have e : ((A + p.toNat : Nat) : Int) = (A : Int) + p := by omega
    rw [e]
  · rfl
end Go.Port
namespace Go.Proofs.Ytngphgdoolcpcaa
open Go.RowKit Go.Port

set_option maxRecDepth 100000 in
set_option maxHeartbeats 4000000 in
theorem rfrom_any (bs : List UInt8) (a : Option Addr) (c A : Nat) (W D p : Int) (w : World) (hb : bs.length ≤ 1000000) (hbc : bs.length ≤ c) (hA : A ≤ bs.length) (hW : 1 ≤ W ∧ W ≤ 134217728) (hD : 1 ≤ D ∧ D ≤ 4096) (hp : -1000000 ≤ p ∧ p ≤ 1000000)
    (hc : ∀ j u, (bs.map bv)[j]? = some u → ∃ bl off, a = some ⟨bl, off, none⟩ ∧ bl < w.heap.size ∧ w.cell? ⟨bl, off + j, none⟩ = some u) :
    Calls Try.prog 46 #[fdv a bs.length c A W D, .int .i64 p] w fun e w' => ∃ v, e = .returned v ∧ w'.ownsRow w.heap.size 3 1 v (candL bs A W D p).length ((candL bs A W D p).map natI) ∧ Below w.heap.size w w' := by
  have H2 := hid (Blk.new w (fdc a bs.length c A W D) 25)
  have hB := below_new w (.cells (fdc a bs.length c A W D).toArray 25)
  have HPl := hid (rplaces_any bs a c A W D p (w.alloc (.cells (fdc a bs.length c A W D).toArray 25)) hb hbc hA hW hD hp (at_same hc hB))
  have HB := hid hB
  rw [placesS_eq] at HPl
  have HCo := hid (fun q (h : q ∈ candL bs A W D p) => candL_own h)
  have hll := candL_deep bs A W D p (by omega)
  have hw1 : IntKind.i64.wrap ((A : Int) + p) = (A : Int) + p := by rw [IntKind.wrap_i64]; omega
  obtain ⟨A', hA'⟩ : ∃ A' : Nat, A' = A ∧ (A' : Int) ≤ 1000000 := ⟨A, rfl, by omega⟩
  obtain ⟨L, hL⟩ : ∃ L, candL bs A W D p = L := ⟨_, rfl⟩
  rw [hL] at HPl HCo hll ⊢
  have hll2 : L.length ≤ 5000 := by omega
  have HD := hid (And.intro hD (And.intro hp (And.intro hA'.1 hA'.2)))
  unfold fdc at HPl HB H2
  unfold fdv at HPl ⊢
  rw [List.length_map] at HPl
  clear hc hB hb hbc hA hW hD hp hL hll hA'
  go_enter Try.func46, Try.ntmps46
  have c0 := H2.out.cell (k := 0) rfl
  have c1 := H2.out.cell (k := 1) rfl
  have c2 := H2.out.cell (k := 2) rfl
  have c3 := H2.out.cell (k := 3) rfl
  go_wp2_with fail
  refine HPl.out.mono ?_
  rintro e w1 ⟨v, rfl, hown, hb1⟩
  obtain ⟨av, cv, rfl⟩ := own_slice hown
  have hcells := (Sl.of_owns hown).cells' rfl
  have HC := hid hcells
  have HX := hid (H2.out.below hb1 H2.out.lt)
  have HB1 := hid (HB.out.trans (hb1.mono HB.out.size))
  clear hown hb1 hcells c0 c1 c2 c3 HB H2 HPl
  have H1lt := hid HX.out.lt
  go_wp2
  go_loopw [6, 7] (fun v i wr => ∃ k : Nat, k ≤ L.length ∧ i = .int .i64 (k : Int) ∧ wr.ownsRow w1.heap.size 3 1 v (L.take k).length ((L.take k).map natI) ∧ Below w1.heap.size w1 wr) (fun _ i _ => L.length - (intOf i).toNat)
  case atStart => exact ⟨0, Nat.zero_le _, rfl, World.ownsRow_nil _ _ _ _, Below.refl _ _⟩
  case round =>
    obtain ⟨k, hk, rfl, hown, hBr⟩ := hrel
    by_cases hlt : k < L.length
    · obtain ⟨q, hq⟩ : ∃ q, L[k]? = some q := ⟨L[k], by simp [hlt]⟩
      have hco := HCo.out q (List.mem_of_getElem? hq)
      obtain ⟨bl2, off2, rfl, hb2, hcx⟩ := HC.out k (.int .i64 ((A + p.toNat - q : Nat) : Int)) (by rw [List.getElem?_map, List.getElem?_map, hq]; rfl)
      have hD0 := HD.out
      have hw2 : IntKind.i64.wrap ((A : Int) + p - ((A + p.toNat - q : Nat) : Int)) = (q : Int) := by rw [IntKind.wrap_i64]; omega
      have hbx : wr.cell? ⟨w.heap.size, 1, none⟩ = some (.int .i64 (A : Int)) := (hBr.cell (p := ⟨w.heap.size, 1, none⟩) H1lt.out).trans (HX.out.cell (k := 1) rfl)
      have hcr : wr.cell? ⟨bl2, off2 + k, none⟩ = some (.int .i64 ((A + p.toNat - q : Nat) : Int)) := (hBr.cell (p := ⟨bl2, off2 + k, none⟩) hb2).trans hcx
      have HST := hid (show L.take (k + 1) = L.take k ++ [q] by
        obtain ⟨h1, h2⟩ := List.getElem?_eq_some_iff.1 hq
        rw [List.take_succ_eq_append_getElem h1, h2])
      generalize A + p.toNat - q = X at *
      have HO := hid hown
      have HBr := hid hBr
      have hkI : (k : Int) < (L.length : Int) := by omega
      obtain ⟨ao, co, rfl⟩ := own_slice hown
      have hlk : (L.take k).length = k := by rw [List.length_take]; omega
      have hs5 := hBr.size
      rw [hlk] at HO ⊢
      have HCX := hid hcx
      clear hown hBr hq hco hD0 hlk hk hcx
      go_wp2_with fail
      refine wp_region_noPanic ?_
      refine wp_region_held_drew (S := fun W => Below w1.heap.size w1 W) (by kernel_rfl) HBr.out.drew (fun hHeld => ?_)
      have hOd : wr.drew.ownsRow w1.heap.size 3 1 (.slice ao k co) k ((L.take k).map natI) := HO.out
      have hBd := HBr.out.drew
      have hsd := hBd.size
      have HOd := hid hOd
      have HBd := hid hBd
      clear hOd hBd HO HBr hs5
      generalize wr.drew = wd at *
      refine wpAnyH_take (i := 0) (v := .slice ao k co) (by simp only [List.getElem?_toArray, List.getElem?_cons_zero]; rfl) (by kernel_rfl) (by kernel_rfl) (by kernel_rfl) (fun _ _ _ h => h) (Or.inl ⟨by rfl, fun W hSw => ?_⟩) (by assumption) ?_
      · clear hSw
        go_simp
      simp only [Act.put, List.setIfInBounds_toArray, List.set_cons_zero, List.set_cons_succ]
      refine wpAnyH_take (i := 1) (v := .pointer (some ⟨w.heap.size, 1, none⟩)) (by simp only [List.getElem?_toArray, List.getElem?_cons_zero, List.getElem?_cons_succ]; rfl) (by kernel_rfl) (by kernel_rfl) (by kernel_rfl) (fun _ _ _ h => h) (Or.inl ⟨by rfl, fun W hSw => ?_⟩) (by assumption) ?_
      · clear hSw
        go_simp
      simp only [Act.put, List.setIfInBounds_toArray, List.set_cons_zero, List.set_cons_succ]
      refine wpAnyH_take (i := 2) (v := .int .i64 (A : Int)) (by simp only [List.getElem?_toArray, List.getElem?_cons_zero, List.getElem?_cons_succ]; rfl) (by kernel_rfl) (by kernel_rfl) (by kernel_rfl) (fun _ _ _ h => h) (Or.inl ⟨by rfl, fun W hSw => ?_⟩) (by assumption) ?_
      · have hcw := (Below.cell (p := ⟨w.heap.size, 1, none⟩) hSw H1lt.out).trans (HX.out.cell (k := 1) rfl)
        go_simp
      simp only [Act.put, List.setIfInBounds_toArray, List.set_cons_zero, List.set_cons_succ]
      refine wpAnyH_take (i := 3) (v := .int .i64 p) (by simp only [List.getElem?_toArray, List.getElem?_cons_zero, List.getElem?_cons_succ]; rfl) (by kernel_rfl) (by kernel_rfl) (by kernel_rfl) (fun _ _ _ h => h) (Or.inl ⟨by rfl, fun W hSw => ?_⟩) (by assumption) ?_
      · clear hSw
        go_simp
      simp only [Act.put, List.setIfInBounds_toArray, List.set_cons_zero, List.set_cons_succ]
      refine wpAnyH_take (i := 4) (v := .int .i64 ((A : Int) + p)) (by simp only [List.getElem?_toArray, List.getElem?_cons_zero, List.getElem?_cons_succ]; rfl) (by kernel_rfl) (by kernel_rfl) (by kernel_rfl) (fun _ _ _ h => h) (Or.inl ⟨by rfl, fun W hSw => ?_⟩) (by assumption) ?_
      · clear hSw
        go_simp
      simp only [Act.put, List.setIfInBounds_toArray, List.set_cons_zero, List.set_cons_succ]
      refine wpAnyH_take (i := 5) (v := .slice (some ⟨bl2, off2, none⟩) L.length cv) (by simp only [List.getElem?_toArray, List.getElem?_cons_zero, List.getElem?_cons_succ]; rfl) (by kernel_rfl) (by kernel_rfl) (by kernel_rfl) (fun _ _ _ h => h) (Or.inl ⟨by rfl, fun W hSw => ?_⟩) (by assumption) ?_
      · clear hSw
        go_simp
      simp only [Act.put, List.setIfInBounds_toArray, List.set_cons_zero, List.set_cons_succ]
      refine wpAnyH_take (i := 6) (v := .int .i64 (k : Int)) (by simp only [List.getElem?_toArray, List.getElem?_cons_zero, List.getElem?_cons_succ]; rfl) (by kernel_rfl) (by kernel_rfl) (by kernel_rfl) (fun _ _ _ h => h) (Or.inl ⟨by rfl, fun W hSw => ?_⟩) (by assumption) ?_
      · clear hSw
        go_simp
      simp only [Act.put, List.setIfInBounds_toArray, List.set_cons_zero, List.set_cons_succ]
      refine wpAnyH_take (i := 7) (v := .pointer (some ⟨bl2, off2 + k, none⟩)) (by simp only [List.getElem?_toArray, List.getElem?_cons_zero, List.getElem?_cons_succ]; rfl) (by kernel_rfl) (by kernel_rfl) (by kernel_rfl) (fun _ _ _ h => h) (Or.inl ⟨by rfl, fun W hSw => ?_⟩) (by assumption) ?_
      · clear hSw
        go_simp
      simp only [Act.put, List.setIfInBounds_toArray, List.set_cons_zero, List.set_cons_succ]
      refine wpAnyH_take (i := 8) (v := .int .i64 (X : Int)) (by simp only [List.getElem?_toArray, List.getElem?_cons_zero, List.getElem?_cons_succ]; rfl) (by kernel_rfl) (by kernel_rfl) (by kernel_rfl) (fun _ _ _ h => h) (Or.inl ⟨by rfl, fun W hSw => ?_⟩) (by assumption) ?_
      · have hcw := (Below.cell (p := ⟨bl2, off2 + k, none⟩) hSw hb2).trans (HCX.out)
        go_simp
      simp only [Act.put, List.setIfInBounds_toArray, List.set_cons_zero, List.set_cons_succ]
      refine wpAnyH_take (i := 9) (v := .int .i64 (q : Int)) (by simp only [List.getElem?_toArray, List.getElem?_cons_zero, List.getElem?_cons_succ]; rfl) (by kernel_rfl) (by kernel_rfl) (by kernel_rfl) (fun _ _ _ h => h) (Or.inl ⟨by rfl, fun W hSw => ?_⟩) (by assumption) ?_
      · clear hSw
        go_simp
      simp only [Act.put, List.setIfInBounds_toArray, List.set_cons_zero, List.set_cons_succ]
      refine wpAnyH_ready (rs := [10]) (by kernel_rfl) (by simp) ?_
      refine AllReadyH.cons (by simp only [List.getElem?_toArray, List.getElem?_cons_zero, List.getElem?_cons_succ]; rfl) (fun K hK => ?_) AllReadyH.nil
      rw [if_pos (by rfl)]
      go_simp
      have hB6 := HBd.out.alloc hsd (.cells #[.int .i64 (q : Int)] 3)
      refine hK.out _ _ hB6 (fun _ => ?_)
      clear hK K
      refine wpAnyH_ready (rs := [11]) (by kernel_rfl) (by simp) ?_
      refine AllReadyH.cons (by simp only [List.getElem?_toArray, List.getElem?_cons_zero, List.getElem?_cons_succ]; rfl) (fun K hK => ?_) AllReadyH.nil
      refine step_append1 rfl _ _ 49 rfl 3 _ 1 8 Try.underlying49 Try.info_int rfl (by decide) w1.heap.size _ _ _ [.int .i64 (q : Int)] rfl ?hu rfl rfl (by exact HOd.out) ?h63 ?hn hsd ?hk
      case hu => simp [Value.oneCell']
      case h63 => simp only [maxLen]; omega
      case hn => omega
      case hk =>
        intro v' w7 hown7 hg
        have hbg := below_grown HOd.out hg hsd
        have hB7 := HBd.out.trans hbg
        refine hK.out _ _ hB7 (fun _ => ?_)
        clear hK K
        have HB7 := hid hB7
        have HO7 := hid hown7
        clear hB7 hown7 hbg hg hB6
        simp only [Act.put, List.setIfInBounds_toArray, List.set_cons_zero, List.set_cons_succ]
        refine wpAnyH_ready (rs := [12]) (by kernel_rfl) (by simp) ?_
        refine AllReadyH.cons (by simp only [List.getElem?_toArray, List.getElem?_cons_zero, List.getElem?_cons_succ]; rfl) (fun K hK => ?_) AllReadyH.nil
        rw [if_pos (by rfl)]
        go_simp
        refine hK.out _ _ HB7.out (fun _ => ?_)
        clear hK K
        refine wpAnyH_done (by kernel_rfl) ?_ _
        refine NoPanic.normal ?_
        go_wp2
        go_roundw
        case rel =>
          refine ⟨k + 1, hlt, by go_num, ?_, HB7.out⟩
          have h3 := HO7.out
          rw [HST.out, List.map_append, List.length_append, List.length_take, Nat.min_eq_left (Nat.le_of_lt hlt)]
          exact h3
        case measure => simp [intOf]; omega
    · obtain rfl : k = L.length := by omega
      rw [List.take_of_length_le (Nat.le_refl _)] at hown
      have HO := hid (own_le hown (show w.heap.size ≤ w1.heap.size by have := H1lt.out; omega))
      have HBr := hid (HB1.out.trans (hBr.mono HB1.out.size))
      clear hown hBr
      go_wp2
      go_ret
      exact ⟨_, rfl, HO.out, HBr.out⟩

set_option maxRecDepth 100000 in
set_option maxHeartbeats 4000000 in
theorem rfind_any (bs : List UInt8) (a : Option Addr) (c A : Nat) (W D p : Int) (w : World) (hb : bs.length ≤ 1000000) (hbc : bs.length ≤ c) (hA : A ≤ bs.length) (hW : 1 ≤ W ∧ W ≤ 134217728) (hD : 1 ≤ D ∧ D ≤ 4096) (hp : -1000000 ≤ p ∧ p ≤ 1000000)
    (hc : ∀ j u, (bs.map bv)[j]? = some u → ∃ bl off, a = some ⟨bl, off, none⟩ ∧ bl < w.heap.size ∧ w.cell? ⟨bl, off + j, none⟩ = some u) :
    Calls Try.prog 28 #[fdv a bs.length c A W D, .int .i64 p] w (RetV w (.tuple #[sqv ((findS bs A W D p).getD Sq.zero), .bool (findS bs A W D p).isSome])) := by
  have HFr := hid (fun W' (hW' : Below w.heap.size w W') => rfrom_any bs a c A W D p W' hb hbc hA hW hD hp (at_same hc hW'))
  have hll := candL_deep bs A W D p (by omega)
  have HBe := hid (fun a2 c2 W' (hW' : Below w.heap.size w W') h => rbest_any a a2 c c2 bs ((A : Int) + p) bs.length ((candL bs A W D p).map fun (q : Nat) => (q : Int)) W' (by omega) (by rw [List.length_map]; omega) (at_same hc hW') h)
  rw [refBest_pos, refBest_eq, findS_cand, ← natI_map, List.length_map] at HBe
  have hw1 : IntKind.i64.wrap ((A : Int) + p) = (A : Int) + p := by rw [IntKind.wrap_i64]; omega
  generalize findS bs A W D p = o at *
  generalize candL bs A W D p = L at *
  have HLl := hid (show L.length ≤ 5000 by omega)
  have HBe2 := hid (fun a2 c2 W' (hW' : Below w.heap.size w W') h => (show Calls Try.prog 45 #[.slice a bs.length c, .int .i64 ((A : Int) + p), .int .i64 (bs.length : Int), .slice a2 L.length c2] W' (RetV W' (.tuple #[.agg #[.int .i64 (o.getD Sq.zero).lit, .int .i64 (o.getD Sq.zero).len, .int .i64 (o.getD Sq.zero).off], .bool o.isSome])) from HBe.out a2 c2 W' hW' h))
  have hB := (below_new w (.cells (fdc a bs.length c A W D).toArray 25))
  have H2 := hid ((Blk.new w (fdc a bs.length c A W D) 25).alloc (.cells #[.int .i64 0, .int .i64 0, .int .i64 0] 45))
  have HX := hid (show Blk ((w.alloc (.cells (fdc a bs.length c A W D).toArray 25)).alloc (.cells #[.int .i64 0, .int .i64 0, .int .i64 0] 45)) (w.heap.size + 1) [.int .i64 0, .int .i64 0, .int .i64 0] 45 from Blk.newAt (by simp))
  have HB := hid (hB.alloc hB.size (.cells #[.int .i64 0, .int .i64 0, .int .i64 0] 45))
  unfold fdc at HB H2 HX
  unfold fdv at HFr ⊢
  unfold sqv
  clear hc hB hb hbc hA hW hD hp hll HBe
  go_enter Try.func28, Try.ntmps28
  go_wp2_with fail
  generalize ((w.alloc (.cells #[.slice a bs.length c, .int .i64 (A : Int), .int .i64 W, .int .i64 D] 25)).alloc (.cells #[.int .i64 0, .int .i64 0, .int .i64 0] 45)) = w1 at *
  refine wp_region_noPanic ?_
  refine wp_region_held_drew (S := fun W' => Below w.heap.size w W' ∧ Blk W' w.heap.size [.slice a bs.length c, .int .i64 (A : Int), .int .i64 W, .int .i64 D] 25) (by kernel_rfl) ⟨HB.out.drew, H2.out⟩ (fun hHeld => ?_)
  refine wpAnyH_take (i := 0) (v := .pointer (some ⟨w.heap.size, 0, none⟩)) (by simp only [List.getElem?_toArray, List.getElem?_cons_zero]; rfl) (by kernel_rfl) (by kernel_rfl) (by kernel_rfl) (fun _ _ _ h => h) (Or.inl ⟨by rfl, fun W hSw => ?_⟩) (by assumption) ?_
  · clear hSw
    go_simp
  simp only [Act.put, List.setIfInBounds_toArray, List.set_cons_zero, List.set_cons_succ]
  refine wpAnyH_take (i := 1) (v := .slice a bs.length c) (by simp only [List.getElem?_toArray, List.getElem?_cons_zero, List.getElem?_cons_succ]; rfl) (by kernel_rfl) (by kernel_rfl) (by kernel_rfl) (fun _ _ _ h => h) (Or.inl ⟨by rfl, fun W hSw => ?_⟩) (by assumption) ?_
  · have hcw := hSw.2.cell (k := 0) rfl
    go_simp
  simp only [Act.put, List.setIfInBounds_toArray, List.set_cons_zero, List.set_cons_succ]
  refine wpAnyH_take (i := 2) (v := .pointer (some ⟨w.heap.size, 1, none⟩)) (by simp only [List.getElem?_toArray, List.getElem?_cons_zero, List.getElem?_cons_succ]; rfl) (by kernel_rfl) (by kernel_rfl) (by kernel_rfl) (fun _ _ _ h => h) (Or.inl ⟨by rfl, fun W hSw => ?_⟩) (by assumption) ?_
  · clear hSw
    go_simp
  simp only [Act.put, List.setIfInBounds_toArray, List.set_cons_zero, List.set_cons_succ]
  refine wpAnyH_take (i := 3) (v := .int .i64 (A : Int)) (by simp only [List.getElem?_toArray, List.getElem?_cons_zero, List.getElem?_cons_succ]; rfl) (by kernel_rfl) (by kernel_rfl) (by kernel_rfl) (fun _ _ _ h => h) (Or.inl ⟨by rfl, fun W hSw => ?_⟩) (by assumption) ?_
  · have hcw := hSw.2.cell (k := 1) rfl
    go_simp
  simp only [Act.put, List.setIfInBounds_toArray, List.set_cons_zero, List.set_cons_succ]
  refine wpAnyH_take (i := 4) (v := .int .i64 p) (by simp only [List.getElem?_toArray, List.getElem?_cons_zero, List.getElem?_cons_succ]; rfl) (by kernel_rfl) (by kernel_rfl) (by kernel_rfl) (fun _ _ _ h => h) (Or.inl ⟨by rfl, fun W hSw => ?_⟩) (by assumption) ?_
  · clear hSw
    go_simp
  simp only [Act.put, List.setIfInBounds_toArray, List.set_cons_zero, List.set_cons_succ]
  refine wpAnyH_take (i := 5) (v := .int .i64 ((A : Int) + p)) (by simp only [List.getElem?_toArray, List.getElem?_cons_zero, List.getElem?_cons_succ]; rfl) (by kernel_rfl) (by kernel_rfl) (by kernel_rfl) (fun _ _ _ h => h) (Or.inl ⟨by rfl, fun W hSw => ?_⟩) (by assumption) ?_
  · clear hSw
    go_simp
  simp only [Act.put, List.setIfInBounds_toArray, List.set_cons_zero, List.set_cons_succ]
  refine wpAnyH_take (i := 6) (v := .pointer (some ⟨w.heap.size, 0, none⟩)) (by simp only [List.getElem?_toArray, List.getElem?_cons_zero, List.getElem?_cons_succ]; rfl) (by kernel_rfl) (by kernel_rfl) (by kernel_rfl) (fun _ _ _ h => h) (Or.inl ⟨by rfl, fun W hSw => ?_⟩) (by assumption) ?_
  · clear hSw
    go_simp
  simp only [Act.put, List.setIfInBounds_toArray, List.set_cons_zero, List.set_cons_succ]
  refine wpAnyH_take (i := 7) (v := .slice a bs.length c) (by simp only [List.getElem?_toArray, List.getElem?_cons_zero, List.getElem?_cons_succ]; rfl) (by kernel_rfl) (by kernel_rfl) (by kernel_rfl) (fun _ _ _ h => h) (Or.inl ⟨by rfl, fun W hSw => ?_⟩) (by assumption) ?_
  · have hcw := hSw.2.cell (k := 0) rfl
    go_simp
  simp only [Act.put, List.setIfInBounds_toArray, List.set_cons_zero, List.set_cons_succ]
  refine wpAnyH_take (i := 8) (v := .int .i64 (bs.length : Int)) (by simp only [List.getElem?_toArray, List.getElem?_cons_zero, List.getElem?_cons_succ]; rfl) (by kernel_rfl) (by kernel_rfl) (by kernel_rfl) (fun _ _ _ h => h) (Or.inl ⟨by rfl, fun W hSw => ?_⟩) (by assumption) ?_
  · clear hSw
    go_simp
  simp only [Act.put, List.setIfInBounds_toArray, List.set_cons_zero, List.set_cons_succ]
  refine wpAnyH_take (i := 9) (v := .agg #[.slice a bs.length c, .int .i64 (A : Int), .int .i64 W, .int .i64 D]) (by simp only [List.getElem?_toArray, List.getElem?_cons_zero, List.getElem?_cons_succ]; rfl) (by kernel_rfl) (by kernel_rfl) (by kernel_rfl) (fun _ _ _ h => h) (Or.inl ⟨by rfl, fun W hSw => ?_⟩) (by assumption) ?_
  · have hcw0 := hSw.2.cell (k := 0) rfl
    have hcw1 := hSw.2.cell (k := 1) rfl
    have hcw2 := hSw.2.cell (k := 2) rfl
    have hcw3 := hSw.2.cell (k := 3) rfl
    go_simp
  simp only [Act.put, List.setIfInBounds_toArray, List.set_cons_zero, List.set_cons_succ]
  refine wpAnyH_take (i := 10) (v := .int .i64 p) (by simp only [List.getElem?_toArray, List.getElem?_cons_zero, List.getElem?_cons_succ]; rfl) (by kernel_rfl) (by kernel_rfl) (by kernel_rfl) (fun _ _ _ h => h) (Or.inl ⟨by rfl, fun W hSw => ?_⟩) (by assumption) ?_
  · clear hSw
    go_simp
  simp only [Act.put, List.setIfInBounds_toArray, List.set_cons_zero, List.set_cons_succ]
  refine wpAnyH_ready (rs := [11]) (by kernel_rfl) (by simp) ?_
  refine AllReadyH.cons (by simp only [List.getElem?_toArray, List.getElem?_cons_zero, List.getElem?_cons_succ]; rfl) (fun K hK => ?_) AllReadyH.nil
  rw [if_pos (by rfl)]
  go_simp
  go_at_call 46
  refine (HFr.out _ HB.out.drew).mono ?_
  rintro e w2 ⟨v, rfl, hown, hb2⟩
  obtain ⟨av, cv, rfl⟩ := own_slice hown
  have hcells := (Sl.of_owns hown).cells' rfl
  dsimp only
  have hb2' : Below w1.heap.size w1 w2 := (show Below w1.heap.size w1 w1.drew from (Below.refl _ _).drew).trans hb2
  have HB2 := hid (HB.out.trans (hb2'.mono HB.out.size))
  have HF2 := hid (H2.out.below hb2' H2.out.lt)
  have HX2 := hid (HX.out.below hb2' HX.out.lt)
  have HC2 := hid hcells
  refine hK.out _ _ ⟨HB2.out, HF2.out⟩ (fun _ => ?_)
  clear hK K hown hb2 hcells hb2' HB H2 HX
  refine wpAnyH_ready (rs := [12]) (by kernel_rfl) (by simp) ?_
  refine AllReadyH.cons (by simp only [List.getElem?_toArray, List.getElem?_cons_zero, List.getElem?_cons_succ]; rfl) (fun K hK => ?_) AllReadyH.nil
  rw [if_pos (by rfl)]
  go_simp
  go_at_call 45
  refine (HBe2.out av cv w2 HB2.out (fun j u hu => HC2.out j u hu)).mono ?_
  rintro e w3 ⟨rfl, hb3⟩
  dsimp only
  have hb3' : Below w2.heap.size w2 w3 := hb3
  have HB3 := hid (HB2.out.trans (hb3'.mono HB2.out.size))
  have HF3 := hid (HF2.out.below hb3' HF2.out.lt)
  have hX3 := HX2.out.below hb3' HX2.out.lt
  have HX3 := hid hX3
  refine hK.out _ _ ⟨HB3.out, HF3.out⟩ (fun _ => ?_)
  clear hK K hb3 hb3' HB2 HF2 HX2
  have z0 := hX3.frozen 0
  have z1 := hX3.frozen 1
  have z2 := hX3.frozen 2
  have p0 := hX3.cell (k := 0) rfl
  have p1 := hX3.cell (k := 1) rfl
  have p2 := hX3.cell (k := 2) rfl
  have hne : w.heap.size + 1 ≠ w.heap.size := by omega
  have HX := hid (((hX3.set 0 (.int .i64 (o.getD Sq.zero).lit)).set 1 (.int .i64 (o.getD Sq.zero).len)).set 2 (.int .i64 (o.getD Sq.zero).off))
  have HB9 := hid (((HB3.out.setCell (p := ⟨w.heap.size + 1, 0, none⟩) (Nat.le_succ _) (.int .i64 (o.getD Sq.zero).lit)).setCell (p := ⟨w.heap.size + 1, 1, none⟩) (Nat.le_succ _) (.int .i64 (o.getD Sq.zero).len)).setCell (p := ⟨w.heap.size + 1, 2, none⟩) (Nat.le_succ _) (.int .i64 (o.getD Sq.zero).off))
  have HF9 := hid (((HF3.out.other (a := ⟨w.heap.size + 1, 0, none⟩) (.int .i64 (o.getD Sq.zero).lit) hne).other (a := ⟨w.heap.size + 1, 1, none⟩) (.int .i64 (o.getD Sq.zero).len) hne).other (a := ⟨w.heap.size + 1, 2, none⟩) (.int .i64 (o.getD Sq.zero).off) hne)
  clear hX3
  refine wpAnyH_take (i := 13) (v := .agg #[.int .i64 (o.getD Sq.zero).lit, .int .i64 (o.getD Sq.zero).len, .int .i64 (o.getD Sq.zero).off]) (by simp only [List.getElem?_toArray, List.getElem?_cons_zero, List.getElem?_cons_succ]; rfl) (by kernel_rfl) (by kernel_rfl) (by kernel_rfl) (fun _ _ _ h => h) (Or.inl ⟨by rfl, fun W hSw => ?_⟩) (by assumption) ?_
  · clear hSw
    go_simp
  simp only [Act.put, List.setIfInBounds_toArray, List.set_cons_zero, List.set_cons_succ]
  refine wpAnyH_take (i := 14) (v := .bool o.isSome) (by simp only [List.getElem?_toArray, List.getElem?_cons_zero, List.getElem?_cons_succ]; rfl) (by kernel_rfl) (by kernel_rfl) (by kernel_rfl) (fun _ _ _ h => h) (Or.inl ⟨by rfl, fun W hSw => ?_⟩) (by assumption) ?_
  · clear hSw
    go_simp
  simp only [Act.put, List.setIfInBounds_toArray, List.set_cons_zero, List.set_cons_succ]
  refine wpAnyH_ready (rs := [15]) (by kernel_rfl) (by simp) ?_
  refine AllReadyH.cons (by simp only [List.getElem?_toArray, List.getElem?_cons_zero, List.getElem?_cons_succ]; rfl) (fun K hK => ?_) AllReadyH.nil
  rw [if_pos (by rfl)]
  go_simp
  refine hK.out _ _ ⟨HB9.out, HF9.out⟩ (fun _ => ?_)
  clear hK K
  refine wpAnyH_ready (rs := [16]) (by kernel_rfl) (by simp) ?_
  refine AllReadyH.cons (by simp only [List.getElem?_toArray, List.getElem?_cons_zero, List.getElem?_cons_succ]; rfl) (fun K hK => ?_) AllReadyH.nil
  rw [if_pos (by rfl)]
  go_simp
  refine hK.out _ _ ⟨HB9.out, HF9.out⟩ (fun _ => ?_)
  clear hK K
  refine wpAnyH_done (by kernel_rfl) ?_ _
  refine NoPanic.normal ?_
  go_wp2
  have r0 := HX.out.cell (k := 0) rfl
  have r1 := HX.out.cell (k := 1) rfl
  have r2 := HX.out.cell (k := 2) rfl
  have hb9 := HB9.out
  refine bodyPost_ret (v := .tuple #[.agg #[.int .i64 (o.getD Sq.zero).lit, .int .i64 (o.getD Sq.zero).len, .int .i64 (o.getD Sq.zero).off], .bool o.isSome]) (by simp [results, Try.results28, go_sem, r0, r1, r2]) rfl ?_
  exact ⟨rfl, hb9⟩
end Go.Proofs.Ytngphgdoolcpcaa
